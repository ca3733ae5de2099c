/- The reflective executor, part 8: all operations. -/
import Derived.Test.YtlealmffhmhchaaGreatDoorRxA
import Derived.Lib.UnsafeStr
import Derived.RangeFuncRecord
import Derived.Stop.Asserts
import Derived.Scope
import Derived.Laws.RangeString
import Derived.LoopN
import Derived.OrdersHeld
import Derived.RangeFuncLeaves
namespace Go.Rx
noncomputable section
open Go.RowKit
section
variable {P : Program} {G B : Nat} {w0 w : World} {ε : Env} {S : St}

/-- What a computation yields that asks nothing but the program; marks are passed by. -/
def pureM {α : Type} (P : Program) : Sem α → Option α
  | .pure a => some a
  | .program k => pureM P (k P)
  | .mark _ k => pureM P k
  | _ => none
theorem pureM_run {α : Type} {P : Program} : ∀ {s : Sem α} {a : α}, pureM P s = some a → ∀ w, s.run P w = .ok a w
  | .pure b, a, h, w => by simp [pureM] at h; subst h; rfl
  | .program k, a, h, w => by simp only [pureM] at h; simpa [Sem.run] using pureM_run h w
  | .mark m k, a, h, w => by simp only [pureM] at h; simpa [Sem.run] using pureM_run h w
  | .load .., a, h, w => by simp [pureM] at h
  | .store .., a, h, w => by simp [pureM] at h
  | .new .., a, h, w => by simp [pureM] at h
  | .shape .., a, h, w => by simp [pureM] at h
  | .freeze .., a, h, w => by simp [pureM] at h
  | .frozen .., a, h, w => by simp [pureM] at h
  | .getObj .., a, h, w => by simp [pureM] at h
  | .setObj .., a, h, w => by simp [pureM] at h
  | .choose .., a, h, w => by simp [pureM] at h
  | .sys .., a, h, w => by simp [pureM] at h
  | .halt .., a, h, w => by simp [pureM] at h

/-- A closed value, strings too. -/
def scs : AV → Option Value
  | .int k n => some (.int k n)
  | .bool b => some (.bool b)
  | .flt k n => some (.float k n)
  | .str s => if okb s then some (.string (bs s)) else none
  | .nilslc => some (.slice none 0 0)
  | _ => none
theorem scs_γ {v : AV} {x : Value} (h : scs v = some x) : γ ε v = some x := by
  cases v <;> simp [scs] at h <;> simp [γ, h]
def scl : List AV → Option (List Value)
  | [] => some []
  | v :: l => match scs v with
    | some x => match scl l with
      | some xs => some (x :: xs)
      | none => none
    | none => none
theorem scl_γ : ∀ {l : List AV} {xs : List Value}, scl l = some xs → γs ε l = some xs
  | [], xs, h => by simp [scl] at h; subst h; rfl
  | v :: l, xs, h => by
    simp only [scl] at h
    split at h <;> try (simp at h; done)
    rename_i x hx
    split at h <;> try (simp at h; done)
    rename_i ys hy
    simp at h; subst h
    exact γs_cons.2 ⟨x, ys, scs_γ hx, scl_γ hy, rfl⟩

/-! ### Operands -/
/-- By the recursors themselves: the kernel takes fewer steps. -/
def nth (l : List AV) : Nat → AV := List.rec (motive := fun _ => Nat → AV) (fun _ => .tup []) (fun v _ ih n => Nat.rec (motive := fun _ => AV) v (fun m _ => ih m) n) l
theorem nth_eq : ∀ (l : List AV) (n : Nat), nth l n = l.getD n (.tup [])
  | [], n => rfl
  | v :: l, 0 => rfl
  | v :: l, n + 1 => (nth_eq l n).trans (by simp)
def setN (v : AV) (l : List AV) : Nat → List AV :=
  List.rec (motive := fun _ => Nat → List AV) (fun _ => []) (fun u l ih n => Nat.rec (motive := fun _ => List AV) (v :: l) (fun m _ => u :: ih m) n) l
theorem setN_eq (v : AV) : ∀ (l : List AV) (n : Nat), setN v l n = l.set n v
  | [], n => by cases n <;> rfl
  | u :: l, 0 => rfl
  | u :: l, n + 1 => by
    show u :: setN v l n = _
    rw [setN_eq v l n]; rfl
def ev (G : Nat) (A : List AV) : Operand → Option AV
  | .tmp t => some (nth A t)
  | .const v => cv 8 v
  | .global g => if g < G then some (.ptr g 0) else none
  | .func f => some (.func (.func f) [] [])
def evs (G : Nat) (A : List AV) : List Operand → Option (List AV)
  | [] => some []
  | x :: l => match ev G A x with
    | some v => match evs G A l with
      | some vs => some (v :: vs)
      | none => none
    | none => none
/-- The activation is what the list says; 'ds' are laid behind. -/
structure AR (ε : Env) (ds : List Deferred) (A : List AV) (a : Act) : Prop where
  tmps : γs ε A = some a.tmps.toList
  defers : a.defers = ds
theorem AR.mono {ε' : Env} (hle : ε.le ε') {ds : List Deferred} {A : List AV} {a : Act} (h : AR ε ds A a) : AR ε' ds A a := ⟨γs_mono hle _ _ h.tmps, h.defers⟩
theorem ev_γ (h : Rel G B w0 ε S w) {ds : List Deferred} {A : List AV} {a : Act} (ha : AR ε ds A a) {x : Operand} {v : AV} (he : ev G A x = some v) : γ ε v = some (a.eval x) := by
  cases x with
  | tmp t =>
    simp [ev, nth_eq] at he; subst he
    simp only [Act.eval]
    cases hg : A[t]? with
    | none =>
      have := γs_get_none ha.tmps hg
      have h2 : a.tmps[t]? = none := by simpa using this
      simp [Array.getD_eq_getD_getElem?, h2, γ, γs, undef, hg]
    | some v =>
      obtain ⟨y, h1, h2⟩ := γs_get ha.tmps hg
      have h3 : a.tmps[t]? = some y := by simpa using h1
      simp [List.getD, hg, Array.getD_eq_getD_getElem?, h3, h2]
  | const v => exact cv_sound ε 8 _ _ he
  | global g =>
    simp only [ev] at he
    split at he <;> simp at he
    rename_i hg
    subst he
    simp [γ, h.glob g hg, Act.eval]
  | func f => simp [ev] at he; subst he; simp [γ, γs, Act.eval]
theorem evs_γ (h : Rel G B w0 ε S w) {ds : List Deferred} {A : List AV} {a : Act} (ha : AR ε ds A a) : ∀ {l : List Operand} {vs : List AV}, evs G A l = some vs → γs ε vs = some (l.map a.eval)
  | [], vs, he => by simp [evs] at he; subst he; rfl
  | x :: l, vs, he => by
    simp only [evs] at he
    split at he <;> try (simp at he; done)
    rename_i v hv
    split at he <;> try (simp at he; done)
    rename_i us hu
    simp at he; subst he
    exact γs_cons.2 ⟨_, _, ev_γ h ha hv, evs_γ h ha hu, rfl⟩
def evo (G : Nat) (A : List AV) : Option Operand → Option (Option AV)
  | none => some none
  | some x => match ev G A x with
    | some v => some (some v)
    | none => none
theorem evo_γ (h : Rel G B w0 ε S w) {ds : List Deferred} {A : List AV} {a : Act} (ha : AR ε ds A a) {x : Option Operand} {v : Option AV} (he : evo G A x = some v) : γo ε v = some (x.map a.eval) := by
  cases x with
  | none => simp [evo] at he; subst he; rfl
  | some x =>
    simp only [evo] at he
    split at he <;> simp at he
    rename_i u hu
    subst he
    simp [γo, ev_γ h ha hu]
def evp (G : Nat) (A : List AV) : List (Nat × Operand) → Option (List (Nat × AV))
  | [] => some []
  | (i, x) :: l => match ev G A x with
    | some v => match evp G A l with
      | some vs => some ((i, v) :: vs)
      | none => none
    | none => none
theorem evp_γ (h : Rel G B w0 ε S w) {ds : List Deferred} {A : List AV} {a : Act} (ha : AR ε ds A a) : ∀ {l : List (Nat × Operand)} {vs : List (Nat × AV)}, evp G A l = some vs → γp ε vs = some (l.map fun (i, x) => (i, a.eval x))
  | [], vs, he => by simp [evp] at he; subst he; rfl
  | (i, x) :: l, vs, he => by
    simp only [evp] at he
    split at he <;> try (simp at he; done)
    rename_i v hv
    split at he <;> try (simp at he; done)
    rename_i us hu
    simp at he; subst he
    simp [γp, ev_γ h ha hv, evp_γ h ha hu]

/-! ### Builtins -/
def xLen (P : Program) (t : TypeId) (v : AV) : Option Nat :=
  match P.underlying t, v with
  | some .string, .str s => some s.length
  | some (.slice _), .slc _ _ len _ => some len
  | some (.slice _), .nilslc => some 0
  | some (.map _ _), .nilmap => some 0
  | some (.array n _), _ => some n
  | _, _ => none
theorem len_run {t ty : TypeId} {v : AV} {x : Value} {n : Nat} (hv : γ ε v = some x) (hl : xLen P t v = some n) : (Builtin.len_ #[t] ty #[x]).run P w = .ok (.int .i64 n) w := by
  unfold xLen at hl
  split at hl <;> simp at hl
  · rename_i s ht
    subst hl
    simp only [γ] at hv
    split at hv <;> simp at hv
    subst hv
    simp [Builtin.len_, run_underlying ht, goInt, bs_size]
  · rename_i e i off len c ht
    subst hl
    simp only [γ, Option.map_eq_some_iff] at hv
    obtain ⟨b, hb, rfl⟩ := hv
    simp [Builtin.len_, run_underlying ht, goInt]
  · rename_i e ht
    subst hl
    simp only [γ, Option.some.injEq] at hv
    subst hv
    simp [Builtin.len_, run_underlying ht, goInt]
  · rename_i k e ht
    subst hl
    simp only [γ, Option.some.injEq] at hv
    subst hv
    simp [Builtin.len_, run_underlying ht, goInt]
  · rename_i n0 e ht
    subst hl
    simp [Builtin.len_, run_underlying ht, goInt]
def xCap (P : Program) (t : TypeId) (v : AV) : Option Nat :=
  match P.underlying t, v with
  | some (.slice _), .slc _ _ _ (.ex c) => some c
  | some (.slice _), .nilslc => some 0
  | some (.array n _), _ => some n
  | _, _ => none
theorem cap_run {t ty : TypeId} {v : AV} {x : Value} {n : Nat} (hv : γ ε v = some x) (hl : xCap P t v = some n) : (Builtin.cap_ #[t] ty #[x]).run P w = .ok (.int .i64 n) w := by
  unfold xCap at hl
  split at hl <;> simp at hl
  · rename_i e i off len c ht
    subst hl
    simp only [γ, Option.map_eq_some_iff] at hv
    obtain ⟨b, hb, rfl⟩ := hv
    simp [Builtin.cap_, run_underlying ht, goInt, capOf]
  · rename_i e ht
    subst hl
    simp only [γ, Option.some.injEq] at hv
    subst hv
    simp [Builtin.cap_, run_underlying ht, goInt]
  · rename_i n0 e ht
    subst hl
    simp [Builtin.cap_, run_underlying ht, goInt]

/-- unsafe.SliceData of a slice that has elements. -/
def xSliceData (v : AV) (S : St) : Option AV :=
  match v with
  | .slc i off (len + 1) c => if capOk S i off (len + 1) c then some (.ptr i off) else none
  | .nilslc => some .nilptr
  | _ => none
theorem sliceData_means (h : Rel G B w0 ε S w) {ts : Array TypeId} {ty : TypeId} {v u : AV} {x : Value} (hv : γ ε v = some x) (hl : xSliceData v S = some u) :
    MeansV G B w0 ε S ((Builtin.unsafeSliceData_ ts ty #[x]).run P w) u S := by
  unfold xSliceData at hl
  split at hl <;> try (simp at hl; done)
  · rename_i i off len c
    split at hl <;> simp at hl
    rename_i hc
    subst hl
    have := capOk_le h hc
    simp only [γ, Option.map_eq_some_iff] at hv
    obtain ⟨b, hb, rfl⟩ := hv
    exact MeansV.same h (Lib.run_unsafeSliceData_row w ts ty _ _ _ (by omega)) (by simp [γ, hb])
  · simp at hl; subst hl
    simp only [γ, Option.some.injEq] at hv
    subst hv
    exact MeansV.same h rfl rfl
end
end
end Go.Rx
/- The reflective executor, part 9: all operations. -/
namespace Go.Rx
noncomputable section
open Go.RowKit
section
variable {P : Program} {G B : Nat} {w0 w : World} {ε : Env} {S : St}

def xUnsafeStr (P : Program) (pt : TypeId) (v n : AV) (S : St) : Option (AV × St) :=
  match v, n with
  | .ptr i 0, .int .i64 (.ofNat (m + 1)) =>
    match S.get i, P.underlying pt with
    | some (.cells cs e opn wr), some (.pointer e') =>
      if wr.own && e' = e && P.cellsOf e == 1 && m + 1 ≤ cs.length && m + 1 ≤ 9223372036854775807 then
        match asBytes (cs.take (m + 1)) with
        | some r => some (.str r, S.put i (some (.cells cs e opn .mine)))
        | none => none
      else none
    | _, _ => none
  | _, .int .i64 0 => some (.str [], S)
  | _, _ => none
theorem unsafeStr_means (h : Rel G B w0 ε S w) {pt it ty : TypeId} {v n : AV} {x y : Value} {u : AV × St} (hv : γ ε v = some x) (hy : γ ε n = some y) (hp : ∃ p, x = .pointer p) (hl : xUnsafeStr P pt v n S = some u) :
    MeansV G B w0 ε S ((Builtin.unsafeString_ #[pt, it] ty #[x, y]).run P w) u.1 u.2 := by
  unfold xUnsafeStr at hl
  split at hl <;> try (simp at hl; done)
  · rename_i i m
    split at hl <;> try (simp at hl; done)
    rename_i cs e opn wr e' hget hpt
    split at hl <;> try (simp at hl; done)
    rename_i hc
    simp only [Bool.and_eq_true, decide_eq_true_eq, beq_iff_eq] at hc
    obtain ⟨⟨⟨⟨hwr, rfl⟩, hc1⟩, hc2⟩, hc3⟩ := hc
    split at hl <;> simp at hl
    rename_i r hr
    subst hl
    obtain ⟨b, o, h1, h2, ⟨xs, extra, fr, h3, h4, h5, h6⟩, h7⟩ := h.live _ _ hget
    subst h4
    obtain ⟨lo, hi⟩ := fr
    simp only [γ, h1, Option.map_some, Option.some.injEq] at hv
    simp only [γ, Option.some.injEq] at hy
    subst hv; subst hy
    have hxl := γs_length h3
    obtain ⟨e1, e2, e3⟩ := asBytes_spec hr (γs_take h3 (m + 1))
    have hrl : r.length = m + 1 := by rw [e2]; simp; omega
    have hbytes : (bs r).data.toList = r.map UInt8.ofNat := bs_data r
    have hrun := Lib.run_unsafeString_row (P := P) w pt it ty e' hpt hc1 b (xs ++ extra).length (by simp [World.shape?, h2]) (r.map UInt8.ofNat) (by intro h0; have := congrArg List.length h0; simp [hrl] at this)
      (by simp only [List.length_map, hrl, List.length_append, hxl]; omega) (by simp only [List.length_map, hrl]; omega)
      (fun j c hj => by
        rw [Addr.add_lit, Nat.zero_add]
        simp only [List.getElem?_map, Option.map_eq_some_iff] at hj
        obtain ⟨q, hq, rfl⟩ := hj
        have hq256 : q < 256 := by
          simp only [okb, List.all_eq_true, decide_eq_true_eq] at e1
          exact e1 q (List.mem_of_getElem? hq)
        have hjl : j < m + 1 := by rw [← hrl]; exact (List.getElem?_eq_some_iff.1 hq).1
        have hx : (xs.take (m + 1))[j]? = some (.int .u8 (q : Int)) := by rw [e3]; simp [hq]
        rw [List.getElem?_take, if_pos hjl] at hx
        have hjx : j < xs.length := (List.getElem?_eq_some_iff.1 hx).1
        simp [World.cell?, h2, List.getElem?_append_left hjx, hx, Nat.mod_eq_of_lt hq256])
    simp only [List.length_map, hrl] at hrun
    have hstr : (⟨(r.map UInt8.ofNat).toArray⟩ : ByteArray) = bs r := rfl
    rw [hstr] at hrun
    refine ⟨_, _, ε, hrun, Env.agr_refl _ _, by simp [γ, e1], ?_, by simp [St.put]⟩
    have hfz : ∃ fr', (w.freeze ⟨b, 0, none⟩ (m + 1)).heap[b]? = some (.cells (xs ++ extra).toArray e' fr') := by
      have hlt := (Array.getElem?_eq_some_iff.1 h2).1
      have hbv := (Array.getElem?_eq_some_iff.1 h2).2
      unfold World.freeze
      rw [if_neg (by omega)]
      simp only [Array.getElem?_modify, if_true, h2, Option.map_some]
      exact ⟨_, rfl⟩
    obtain ⟨fr', hfr'⟩ := hfz
    refine h.setBlk hget hwr h1 ⟨?_, ?_, ?_, ?_⟩ ?_ hfr' ⟨xs, extra, fr', h3, rfl, by simp, h6⟩
    · unfold World.freeze; split <;> rfl
    · unfold World.freeze; split <;> rfl
    · unfold World.freeze; split <;> rfl
    · unfold World.freeze; split <;> simp
    · intro k hk
      unfold World.freeze
      split
      · rfl
      · simp only [Array.getElem?_modify]
        rw [if_neg (by omega)]
  · simp at hl; subst hl
    simp only [γ, Option.some.injEq] at hy
    subst hy
    obtain ⟨p, rfl⟩ := hp
    exact MeansV.same h (Lib.run_unsafeString_none w pt it ty p) rfl

def isIntT (P : Program) (t : TypeId) : Bool :=
  match P.underlying t with
  | some (.int _) => true
  | _ => false
def xBuiltin (P : Program) (b : Builtin) (ts : Array TypeId) (ty : TypeId) (args : List AV) (S : St) : Option (AV × St) :=
  match b, ts.toList, args with
  | .len, [t], [v] => match xLen P t v with
    | some n => some (.int .i64 n, S)
    | none => none
  | .cap, [t], [v] => match xCap P t v with
    | some n => some (.int .i64 n, S)
    | none => none
  | .append, [t, xt], [s, x] => xAppend P t xt s x S
  | .unsafeSliceData, _, [v] => match xSliceData v S with
    | some u => some (u, S)
    | none => none
  | .unsafeString, [pt, _], [.ptr i off, n] => xUnsafeStr P pt (.ptr i off) n S
  | .unsafeString, [pt, _], [.nilptr, n] => xUnsafeStr P pt .nilptr n S
  | .max, _, _ => match scl args with
    | some xs => match pureM P (Builtin.max_ ts ty xs.toArray) with
      | some v => match cv 2 v with
        | some u => some (u, S)
        | none => none
      | none => none
    | none => none
  | .min, _, _ => match scl args with
    | some xs => match pureM P (Builtin.min_ ts ty xs.toArray) with
      | some v => match cv 2 v with
        | some u => some (u, S)
        | none => none
      | none => none
    | none => none
  | _, _, _ => none
theorem arr_of_list {α : Type} {a : Array α} {l : List α} (h : a.toList = l) : a = l.toArray := by rw [← h]
theorem builtin_means (h : Rel G B w0 ε S w) {b : Builtin} {ts : Array TypeId} {ty : TypeId} {cs : Array Bool} {args : List AV} {xs : List Value} {u : AV × St} (hx : γs ε args = some xs) (hl : xBuiltin P b ts ty args S = some u) :
    Means G B w0 ε S ((builtin b ts ty cs xs.toArray).run P w) (.val u.1 u.2) := by
  unfold xBuiltin at hl
  split at hl <;> try (simp at hl; done)
  · rename_i t v hts
    have hts := arr_of_list hts
    split at hl <;> simp at hl
    rename_i n hn
    subst hl; subst hts
    obtain ⟨x, ys, h1, h2, rfl⟩ := γs_cons.1 hx
    rw [γs_nil] at h2; subst h2
    exact Means.of_v (MeansV.same h (len_run h1 hn) rfl)
  · rename_i t v hts
    have hts := arr_of_list hts
    split at hl <;> simp at hl
    rename_i n hn
    subst hl; subst hts
    obtain ⟨x, ys, h1, h2, rfl⟩ := γs_cons.1 hx
    rw [γs_nil] at h2; subst h2
    exact Means.of_v (MeansV.same h (cap_run h1 hn) rfl)
  · rename_i t xt s x hts
    have hts := arr_of_list hts
    subst hts
    obtain ⟨p, ys, h1, h2, rfl⟩ := γs_cons.1 hx
    obtain ⟨q, ys, h3, h4, rfl⟩ := γs_cons.1 h2
    rw [γs_nil] at h4; subst h4
    exact Means.of_v (append_means h h1 h3 hl)
  · rename_i v
    split at hl <;> simp at hl
    rename_i u' hu
    subst hl
    obtain ⟨x, ys, h1, h2, rfl⟩ := γs_cons.1 hx
    rw [γs_nil] at h2; subst h2
    exact Means.of_v (sliceData_means h h1 hu)
  · rename_i pt it i off n hts
    have hts := arr_of_list hts
    subst hts
    obtain ⟨p, ys, h1, h2, rfl⟩ := γs_cons.1 hx
    obtain ⟨q, ys, h3, h4, rfl⟩ := γs_cons.1 h2
    rw [γs_nil] at h4; subst h4
    have hp : ∃ p', p = .pointer p' := by
      simp only [γ, Option.map_eq_some_iff] at h1
      obtain ⟨b', _, rfl⟩ := h1
      exact ⟨_, rfl⟩
    exact Means.of_v (unsafeStr_means h h1 h3 hp hl)
  · rename_i pt it n hts
    have hts := arr_of_list hts
    subst hts
    obtain ⟨p, ys, h1, h2, rfl⟩ := γs_cons.1 hx
    obtain ⟨q, ys, h3, h4, rfl⟩ := γs_cons.1 h2
    rw [γs_nil] at h4; subst h4
    have hp : ∃ p', p = .pointer p' := by
      simp only [γ, Option.some.injEq] at h1
      exact ⟨none, h1.symm⟩
    exact Means.of_v (unsafeStr_means h h1 h3 hp hl)
  · split at hl <;> try (simp at hl; done)
    rename_i ys hys
    have := scl_γ (ε := ε) hys
    rw [hx] at this; simp at this; subst this
    split at hl <;> try (simp at hl; done)
    rename_i v hv
    split at hl <;> simp at hl
    rename_i u' hu
    subst hl
    exact Means.of_v (MeansV.same h (pureM_run hv w) (cv_sound ε 2 v u' hu))
  · split at hl <;> try (simp at hl; done)
    rename_i ys hys
    have := scl_γ (ε := ε) hys
    rw [hx] at this; simp at this; subst this
    split at hl <;> try (simp at hl; done)
    rename_i v hv
    split at hl <;> simp at hl
    rename_i u' hu
    subst hl
    exact Means.of_v (MeansV.same h (pureM_run hv w) (cv_sound ε 2 v u' hu))

/-! ### Conversions -/
def xConv (P : Program) (src dst : TypeId) (v : AV) (S : St) : Option (AV × St) :=
  match sc v with
  | some x => match pureM P (convert src dst x) with
    | some y => match cv 2 y with
      | some u => some (u, S)
      | none => none
    | none => none
  | none =>
    match P.underlying src, P.underlying dst, v with
    | some .string, some .string, .str s => some (.str s, S)
    | some .string, some (.slice e), .str s => match P.underlying e with
      | some (.int .u8) => some (xToBytes e s S)
      | _ => none
    | some (.slice e), some .string, v => match P.underlying e with
      | some (.int .u8) => match xOfBytes v S with
        | some u => some (u, S)
        | none => none
      | _ => none
    | some (.pointer _), some .unsafePointer, .nilptr => some (.nilptr, S)
    | some .unsafePointer, some (.pointer _), .nilptr => some (.nilptr, S)
    | some (.pointer t), some .unsafePointer, .ptr i off => match S.get i, sizeT P t with
      | some (.cells cs _ _ _), some (_ + 1) => if off < cs.length then some (.ptr i off, S) else none
      | _, _ => none
    | some .unsafePointer, some (.pointer u), .ptr i off => match S.get i, sizeT P u with
      | some (.cells cs e none _), some (_ + 1) =>
        if liesAt P P.depth e (cs.length / P.cellsOf e) off u 1 then some (.ptr i off, S) else none
      | _, _ => none
    | _, _, _ => none
theorem viewAt_cells {b : Nat} {c : Array Value} {e : TypeId} {fr : Nat × Nat} (hb : w.heap[b]? = some (.cells c e fr)) : (viewAt b).run P w = .ok none w := by
  simp [viewAt, World.shape?, hb]
theorem cellsIn_cells {b : Nat} {c : Array Value} {e : TypeId} {fr : Nat × Nat} (hb : w.heap[b]? = some (.cells c e fr)) : (cellsIn b).run P w = .ok (some c.size) w := by
  simp [cellsIn, World.shape?, hb]
theorem conv_means (h : Rel G B w0 ε S w) {src dst : TypeId} {v : AV} {x : Value} {u : AV × St} (hv : γ ε v = some x) (hl : xConv P src dst v S = some u) :
    MeansV G B w0 ε S ((convert src dst x).run P w) u.1 u.2 := by
  unfold xConv at hl
  split at hl
  · rename_i x' hx'
    have e := sc_γ hx' hv
    subst e
    split at hl <;> try (simp at hl; done)
    rename_i y hy
    split at hl <;> simp at hl
    rename_i u' hu
    subst hl
    exact MeansV.same h (pureM_run hy w) (cv_sound ε 2 y u' hu)
  · split at hl <;> try (simp at hl; done)
    · rename_i s h1 h2 _
      simp at hl; subst hl
      have hv' := hv
      simp only [γ] at hv
      split at hv <;> simp at hv
      subst hv
      exact MeansV.same h (by simp [convert, run_underlying h1, run_underlying h2]) hv'
    · rename_i e s h1 h2 _
      split at hl <;> simp at hl
      rename_i h3
      subst hl
      simp only [γ] at hv
      split at hv <;> simp at hv
      rename_i hs
      subst hv
      exact toBytes_means h h1 h2 h3 hs
    · rename_i e h1 h2 _
      split at hl <;> try (simp at hl; done)
      rename_i h3
      split at hl <;> simp at hl
      rename_i u' hu
      subst hl
      exact ofBytes_means h h1 h2 h3 hv hu
    · rename_i t h1 h2 _
      simp at hl; subst hl
      simp only [γ, Option.some.injEq] at hv
      subst hv
      exact MeansV.same h (by simp [convert, run_underlying h1, run_underlying h2, Conv.unsafePointer]) rfl
    · rename_i t h1 h2 _
      simp at hl; subst hl
      simp only [γ, Option.some.injEq] at hv
      subst hv
      exact MeansV.same h (by simp [convert, run_underlying h1, run_underlying h2, Conv.unsafePointer]) rfl
    · rename_i t i off h1 h2 _
      split at hl <;> try (simp at hl; done)
      rename_i cs e opn wr n hget hn
      split at hl <;> simp at hl
      rename_i hoff
      subst hl
      obtain ⟨b, o, h3, h4, ⟨xs, extra, fr, h5, h6, _⟩, _⟩ := h.live _ _ hget
      subst h6
      have hxl := γs_length h5
      have hv' := hv
      simp only [γ, h3, Option.map_some, Option.some.injEq] at hv
      subst hv
      refine MeansV.same h ?_ hv'
      have hlt : ¬ ((xs ++ extra).length ≤ off) := by simp; omega
      simp [convert, run_underlying h1, run_underlying h2, Conv.unsafePointer, Conv.seenAt, viewAt_cells h4, cellsIn_cells h4, run_sizeT hn]
      simp at hlt
      omega
    · rename_i t i off h1 h2 _
      split at hl <;> try (simp at hl; done)
      rename_i cs e wr n hget hn
      split at hl <;> simp at hl
      rename_i hlies
      subst hl
      obtain ⟨b, o, h3, h4, ⟨xs, extra, fr, h5, h6, _, h7⟩, _⟩ := h.live _ _ hget
      subst h6
      have hex : extra = [] := h7
      subst hex
      have hxl := γs_length h5
      have hv' := hv
      simp only [γ, h3, Option.map_some, Option.some.injEq] at hv
      subst hv
      refine MeansV.same h ?_ hv'
      have hsh : w.shape? b = some (e, xs.length) := by simp [World.shape?, h4]
      rw [← hxl] at hlies
      simp [convert, run_underlying h1, run_underlying h2, Conv.unsafePointer, Conv.seenAt, viewAt_cells h4, run_sizeT hn, variablesAt, hsh, hlies]
end
end
end Go.Rx
/- The reflective executor, part 10: one operation of whatever kind. -/
namespace Go.Rx
noncomputable section
open Go.RowKit
section
variable {P : Program} {G B : Nat} {w0 w : World} {ε : Env} {S : St}

def funcOk (P : Program) (f : FuncId) : Bool :=
  match P.funcs[f]? with
  | some fn => fn.body.isSome && !(fn.name == "runtime.NumGoroutine")
  | none => false
theorem callFunc_enter {f : FuncId} (h : funcOk P f = true) (args : Array Value) : (callFunc f args).run P w = .ok (.enter f args) w := by
  unfold funcOk at h
  split at h <;> try (simp at h; done)
  rename_i fn hf
  simp only [Bool.and_eq_true, Bool.not_eq_true'] at h
  obtain ⟨h1, h2⟩ := h
  have h3 : fn.body.isNone = false := by cases hb : fn.body <;> simp [hb] at h1 ⊢
  simp only [callFunc, Sem.run_bind, run_program, Result.andThen_ok, hf, h2, h3, Bool.false_eq_true, if_false, Sem.run_pure]
mutual
/-- A closed value: no address but of package-level variables and type handles. -/
def clo (G : Nat) : AV → Option Value
  | .int k n => some (.int k n)
  | .bool b => some (.bool b)
  | .flt k n => some (.float k n)
  | .str s => if okb s then some (.string (bs s)) else none
  | .ptr i off => if i < G then some (.pointer (some ⟨i, off, none⟩)) else none
  | .nilptr => some (.pointer none)
  | .nilslc => some (.slice none 0 0)
  | .nilmap => some (.map none)
  | .nilfunc => some .nilFunc
  | .niliface => some .nilIface
  | .iface t v => match clo G v with
    | some x => some (.iface t x)
    | none => none
  | .agg l => match clos G l with
    | some xs => some (.agg xs.toArray)
    | none => none
  | .tup l => match clos G l with
    | some xs => some (.tuple xs.toArray)
    | none => none
  | _ => none
def clos (G : Nat) : List AV → Option (List Value)
  | [] => some []
  | v :: l => match clo G v with
    | some x => match clos G l with
      | some xs => some (x :: xs)
      | none => none
    | none => none
end
mutual
theorem clo_γ (hg : ∀ g, g < G → ε.δ g = some g) : ∀ (v : AV) (x : Value), clo G v = some x → γ ε v = some x
  | .int k n, x, h => by simpa [clo, γ] using h
  | .bool b, x, h => by simpa [clo, γ] using h
  | .flt k n, x, h => by simpa [clo, γ] using h
  | .str s, x, h => by simpa [clo, γ] using h
  | .ptr i off, x, h => by
    simp only [clo] at h
    split at h <;> simp at h
    rename_i hi
    simp [γ, hg i hi, h]
  | .nilptr, x, h => by simpa [clo, γ] using h
  | .nilslc, x, h => by simpa [clo, γ] using h
  | .nilmap, x, h => by simpa [clo, γ] using h
  | .nilfunc, x, h => by simpa [clo, γ] using h
  | .niliface, x, h => by simpa [clo, γ] using h
  | .slc i off len c, x, h => by simp [clo] at h
  | .yld i, x, h => by simp [clo] at h
  | .zs .., x, h => by simp [clo] at h
  | .func fn a c, x, h => by simp [clo] at h
  | .iface t v, x, h => by
    simp only [clo] at h
    split at h <;> simp at h
    rename_i y hy
    simp [γ, clo_γ hg v y hy, h]
  | .agg l, x, h => by
    simp only [clo] at h
    split at h <;> simp at h
    rename_i y hy
    simp [γ, clos_γ hg l y hy, h]
  | .tup l, x, h => by
    simp only [clo] at h
    split at h <;> simp at h
    rename_i y hy
    simp [γ, clos_γ hg l y hy, h]
theorem clos_γ (hg : ∀ g, g < G → ε.δ g = some g) : ∀ (l : List AV) (xs : List Value), clos G l = some xs → γs ε l = some xs
  | [], xs, h => by simp [clos] at h; subst h; rfl
  | v :: l, xs, h => by
    simp only [clos] at h
    split at h <;> try (simp at h; done)
    rename_i x hx
    split at h <;> simp at h
    rename_i ys hy
    subst h
    exact γs_cons.2 ⟨x, ys, clo_γ hg v x hx, clos_γ hg l ys hy, rfl⟩
end
def cvg (G : Nat) : Nat → Value → Option AV
  | 0, _ => none
  | n + 1, v => match v with
    | .pointer (some ⟨b, off, none⟩) => if b < G then some (.ptr b off) else none
    | .iface t v => match cvg G n v with
      | some u => some (.iface t u)
      | none => none
    | .agg cs => match cvs (cvg G n) cs.toList with | some l => some (.agg l) | none => none
    | .tuple cs => match cvs (cvg G n) cs.toList with | some l => some (.tup l) | none => none
    | v => cv 2 v
theorem cvg_sound (hg : ∀ g, g < G → ε.δ g = some g) : ∀ (n : Nat) (v : Value) (u : AV), cvg G n v = some u → γ ε u = some v
  | 0, v, u, h => by simp [cvg] at h
  | n + 1, v, u, h => by
    simp only [cvg] at h
    split at h
    · split at h <;> simp at h
      rename_i b off hb
      subst h
      simp [γ, hg b hb]
    · split at h <;> simp at h
      rename_i x hx
      subst h
      simp [γ, cvg_sound hg n _ _ hx]
    · split at h <;> simp at h
      rename_i l hl
      subst h
      have := cvs_sound (ε := ε) (cvg_sound hg n) _ _ hl
      simp [γ, this]
    · split at h <;> simp at h
      rename_i l hl
      subst h
      have := cvs_sound (ε := ε) (cvg_sound hg n) _ _ hl
      simp [γ, this]
    · exact cv_sound ε 2 _ _ h

/-- Handlers of functions without a body. -/
abbrev Ext := FuncId → List AV → St → Option NX
def EOk (P : Program) (G : Nat) (E : Ext) : Prop := ∀ (B : Nat) (w0 : World) (ε : Env) (S : St) (w : World) (f : FuncId) (args : List AV) (xs : List Value) (n : NX),
  Rel G B w0 ε S w → γs ε args = some xs → E f args S = some n → Means G B w0 ε S ((callFunc f xs.toArray).run P w) n
/-- A call of function f. -/
def xEnter (P : Program) (G : Nat) (E : Ext) (f : FuncId) (args : List AV) (S : St) : Option NX :=
  if funcOk P f then some (.enter f args S)
  else match E f args S with
  | some n => some n
  | none => match clos G args with
    | some xs => match pureM P (callFunc f xs.toArray) with
      | some (.value v) => match cvg G 4 v with
        | some u => some (.val u S)
        | none => none
      | _ => none
    | none => none
theorem enter_means (h : Rel G B w0 ε S w) {E : Ext} (hE : EOk P G E) {f : FuncId} {args : List AV} {xs : List Value} {n : NX} (hx : γs ε args = some xs) (hl : xEnter P G E f args S = some n) :
    Means G B w0 ε S ((callFunc f xs.toArray).run P w) n := by
  unfold xEnter at hl
  split at hl
  · rename_i hf
    simp at hl; subst hl
    exact ⟨xs, w, ε, callFunc_enter hf _, Env.agr_refl _ _, hx, h, Nat.le_refl _⟩
  · split at hl
    · rename_i n' hn
      simp at hl; subst hl
      exact hE B w0 ε S w f args xs n' h hx hn
    · split at hl <;> try (simp at hl; done)
      rename_i ys hys
      have := clos_γ (ε := ε) h.glob args ys hys
      rw [hx] at this; simp at this; subst this
      split at hl <;> try (simp at hl; done)
      rename_i v hv
      split at hl <;> simp at hl
      rename_i u hu
      subst hl
      exact ⟨v, w, ε, pureM_run hv w, Env.agr_refl _ _, cvg_sound h.glob 4 v u hu, h, Nat.le_refl _⟩

def xFollow (P : Program) : List FieldStep → TypeId → AV → Option (TypeId × AV)
  | [], t, v => some (t, v)
  | s :: rest, _, v =>
    if s.deref then none else match v, fieldT P s.struct s.index with
    | .agg cs, some f => match xPart P f.type cs f.offset with
      | some u => xFollow P rest f.type u
      | none => none
    | _, _ => none
theorem follow_run : ∀ {l : List FieldStep} {t t' : TypeId} {v u : AV} {x : Value}, γ ε v = some x → xFollow P l t v = some (t', u) →
    ∃ y, γ ε u = some y ∧ ∀ w, (follow l t (.val x)).run P w = .ok (t', .val y) w
  | [], t, t', v, u, x, hv, h => by
    simp [xFollow] at h
    obtain ⟨rfl, rfl⟩ := h
    exact ⟨x, hv, fun w => rfl⟩
  | s :: rest, t, t', v, u, x, hv, h => by
    simp only [xFollow] at h
    split at h <;> try (simp at h; done)
    rename_i hd
    split at h <;> try (simp at h; done)
    rename_i cs f hf
    split at h <;> try (simp at h; done)
    rename_i u' hu'
    obtain ⟨fs, h1, h2⟩ := fieldT_spec hf
    simp only [γ, Option.map_eq_some_iff] at hv
    obtain ⟨xs, hxs, rfl⟩ := hv
    obtain ⟨y, h3, h4⟩ := part_means (P := P) (xs := xs.toArray) (by simpa using hxs) hu'
    obtain ⟨z, h5, h6⟩ := follow_run h4 h
    refine ⟨z, h5, fun w => ?_⟩
    simp [follow, run_underlying h1, h2, hd, h3, h6]
def xMethod (P : Program) (t : TypeId) (v : AV) (name : String) : Option (FuncId × AV) :=
  match P.info? t with
  | some i => match i.methods.find? (·.name == name) with
    | some m => match xFollow P m.path.toList t v with
      | some (xt, u) => match m.func, P.underlying xt with
        | some (f, true), some (.pointer _) => some (f, u)
        | some (_, false), some (.pointer _) => none
        | some (f, false), some _ => some (f, u)
        | _, _ => none
      | none => none
    | none => none
  | none => none
theorem method_run {t : TypeId} {v u : AV} {x : Value} {name : String} {f : FuncId} (hv : γ ε v = some x) (h : xMethod P t v name = some (f, u)) :
    ∃ y, γ ε u = some y ∧ (method (P.types.size + Made.depth) t x name).run P w = .ok (f, y) w := by
  unfold xMethod at h
  split at h <;> try (simp at h; done)
  rename_i i hi
  split at h <;> try (simp at h; done)
  rename_i m hm
  split at h <;> try (simp at h; done)
  rename_i xt u' hfo
  obtain ⟨y, hy, hfr⟩ := follow_run hv hfo
  obtain ⟨k, hk⟩ : ∃ k, P.types.size + Made.depth = k + 1 := ⟨P.types.size + Made.depth - 1, by unfold Made.depth; omega⟩
  rw [hk]
  split at h <;> simp at h
  · rename_i f' e hf ht
    obtain ⟨rfl, rfl⟩ := h
    refine ⟨y, hy, ?_⟩
    simp only [method, Sem.run_bind, typeInfo, run_program, Result.andThen_ok, hi, Sem.run_pure, hm, hfr, hf, receiverAt, run_underlying ht]
    simp [Place.get]
  · rename_i f' d hne hf ht
    obtain ⟨rfl, rfl⟩ := h
    refine ⟨y, hy, ?_⟩
    simp only [method, Sem.run_bind, typeInfo, run_program, Result.andThen_ok, hi, Sem.run_pure, hm, hfr, hf, receiverAt, run_underlying ht]
    cases d <;> first | (exact absurd rfl (hne _)) | simp [Place.get]

/-- The parameters of a round set. -/
def setAll : List (Tmp × AV) → List AV → List AV
  | [], A => A
  | (t, v) :: l, A => setAll l (A.set t v)
theorem setAll_γ : ∀ {ps : List Tmp} {args : List AV} {xs : List Value} {A : List AV} {ys : Array Value}, γs ε args = some xs → γs ε A = some ys.toList →
    γs ε (setAll (ps.zip args) A) = some ((ps.zip xs).foldl (fun tmps (t, a) => tmps.setIfInBounds t a) ys).toList
  | [], args, xs, A, ys, hx, hA => by simpa [setAll] using hA
  | p :: ps, [], xs, A, ys, hx, hA => by
    rw [γs_nil] at hx; subst hx
    simpa [setAll] using hA
  | p :: ps, v :: args, xs, A, ys, hx, hA => by
    obtain ⟨x, xs', h1, h2, rfl⟩ := γs_cons.1 hx
    simp only [List.zip_cons_cons, setAll, List.foldl_cons]
    exact setAll_γ h2 (by simpa using γs_set hA p h1)
theorem invoke_method (name : String) (x : Value) (l : List Value) : invoke (.fn (.method name) #[]) (x :: l).toArray = callMethod x name l.toArray := by simp [invoke]
def xCall (P : Program) (G : Nat) (E : Ext) (A : List AV) (S : St) (c : Call) (ty : TypeId) : Option NX :=
  match evs G A c.args.toList with
  | some args =>
    match c.callee with
    | .builtin b => match xBuiltin P b c.argTypes ty args S with
      | some (u, S') => some (.val u S')
      | none => none
    | .value f => match ev G A f with
      | some (.func (.func g) first captured) => xEnter P G E g (first ++ args ++ captured) S
      | some (.yld i) => match S.get i with
        | some (.lp _ _ A' ps assign body _) => if args.length = ps.size then some (.round i (setAll (ps.toList.zip args) A') assign body S) else none
        | _ => none
      | _ => none
    | .invoke r name => match ev G A r with
      | some (.iface t v) => match xMethod P t v name with
        | some (f, u) => xEnter P G E f (u :: args) S
        | none => none
      | _ => none
  | none => none
theorem call_means (h : Rel G B w0 ε S w) {E : Ext} (hE : EOk P G E) {ds : List Deferred} {A : List AV} {a : Act} (ha : AR ε ds A a) {c : Call} {ty : TypeId} {n : NX} (hl : xCall P G E A S c ty = some n) :
    Means G B w0 ε S ((do let d ← resolve a.eval c ty; invoke d.target d.args : Sem Next).run P w) n := by
  unfold xCall at hl
  split at hl <;> try (simp at hl; done)
  rename_i args hargs
  have hx := evs_γ h ha hargs
  have hmap : (c.args.map a.eval) = (c.args.toList.map a.eval).toArray := by apply Array.ext'; simp
  split at hl
  · rename_i b hb
    split at hl <;> simp at hl
    rename_i u S' hu
    subst hl
    have := builtin_means (cs := c.args.map fun | .const _ => true | _ => false) h hx hu
    have e : ((do let d ← resolve a.eval c ty; invoke d.target d.args : Sem Next).run P w) = (builtin b c.argTypes ty (c.args.map fun | .const _ => true | _ => false) (c.args.toList.map a.eval).toArray).run P w := by
      simp only [resolve, hb, Sem.run_bind, Sem.run_pure, Result.andThen_ok, invoke, hmap]
      rfl
    rw [e]
    exact this
  · rename_i f hf
    split at hl <;> try (simp at hl; done)
    case h_2 =>
      rename_i i hev
      split at hl <;> try (simp at hl; done)
      rename_i st pend A' ps assign body D hget
      split at hl <;> simp at hl
      rename_i hlen
      subst hl
      have hfv := ev_γ h ha hev
      simp only [γ, Option.map_eq_some_iff] at hfv
      obtain ⟨l, h1, h2⟩ := hfv
      obtain ⟨b, o, h3, h4, ⟨fn, xs, d, h5, h6, rfl⟩, _⟩ := h.live _ _ hget
      rw [h1] at h3
      simp at h3
      subst h3
      have e : ((do let d ← resolve a.eval c ty; invoke d.target d.args : Sem Next).run P w) = (Instr.yield l (c.args.toList.map a.eval).toArray).run P w := by
        simp only [resolve, hf, Sem.run_bind, ← h2, Deferred.ofValue, Sem.run_pure, Result.andThen_ok, invoke, hmap]
        simp
      rw [e, run_yield h4 (by simp [← hlen, ← γs_length hx])]
      have hA := setAll_γ (ps := ps.toList) (args := args) (ys := xs.toArray) hx (by simpa using h5)
      refine ⟨l, fn, _, w, ε, ?_, Env.agr_refl _ _, h1, hA, h, Nat.le_refl _⟩
      simp only [Result.ok.injEq, Next.round.injEq, and_self, and_true, true_and]
      have : ps.zip (c.args.toList.map a.eval).toArray = (ps.toList.zip (c.args.toList.map a.eval)).toArray := by apply Array.ext'; simp
      rw [this]
      simp
    rename_i g first captured hev
    have hfv := ev_γ h ha hev
    simp only [γ, Option.bind_eq_some_iff, Option.map_eq_some_iff] at hfv
    obtain ⟨xs, h1, ys, h2, h3⟩ := hfv
    have := enter_means h hE (γs_append (γs_append h1 hx) h2) hl
    have e : ((do let d ← resolve a.eval c ty; invoke d.target d.args : Sem Next).run P w) = (callFunc g (xs ++ c.args.toList.map a.eval ++ ys).toArray).run P w := by
      simp only [resolve, hf, Sem.run_bind, ← h3, Deferred.ofValue, Sem.run_pure, Result.andThen_ok, invoke, hmap]
      simp
    rw [e]
    exact this
  · rename_i r name hr
    split at hl <;> try (simp at hl; done)
    rename_i t v hev
    split at hl <;> try (simp at hl; done)
    rename_i f u hm
    have hrv := ev_γ h ha hev
    simp only [γ, Option.map_eq_some_iff] at hrv
    obtain ⟨y, h1, h2⟩ := hrv
    obtain ⟨z, h4, h3⟩ := method_run (w := w) h1 hm
    have := enter_means h hE (γs_cons.2 ⟨z, _, h4, hx, rfl⟩) hl
    have e : ((do let d ← resolve a.eval c ty; invoke d.target d.args : Sem Next).run P w) = (callFunc f (z :: c.args.toList.map a.eval).toArray).run P w := by
      have e2 : #[a.eval r] ++ c.args.map a.eval = (a.eval r :: c.args.toList.map a.eval).toArray := by rw [hmap]; simp
      simp only [resolve, hr, Sem.run_bind, Sem.run_pure, Result.andThen_ok, e2, invoke_method]
      rw [← h2]
      simp only [callMethod, Sem.run_bind, run_program, Result.andThen_ok, h3]
      congr 2
      simp
    rw [e]
    exact this

def xNil : AV → Bool
  | .ptr _ _ | .iface _ _ => true
  | .func (.func _) _ _ => true
  | _ => false
def xAssert (P : Program) (v : AV) (asserted : TypeId) (ok : Bool) : Option AV :=
  let res (v : AV) : AV := if ok then .tup [v, .bool true] else v
  match P.underlying asserted, v with
  | some (.interface want), .iface t v => match P.info? t with
    | some i => match lacking want i.methods with
      | [] => some (res (.iface t v))
      | _ :: _ => if ok then match zeroOf P asserted with
        | some z => some (.tup [z, .bool false])
        | none => none
        else none
    | none => none
  | some _, .niliface => if ok then match zeroOf P asserted with
    | some z => some (.tup [z, .bool false])
    | none => none
    else none
  | some (.interface _), _ => none
  | some _, .iface t v => if t = asserted then some (res v) else if ok then match zeroOf P asserted with
    | some z => some (.tup [z, .bool false])
    | none => none
    else none
  | _, _ => none
theorem assert_means (h : Rel G B w0 ε S w) {v u : AV} {x : Value} {xt asserted : TypeId} {ok : Bool} (hv : γ ε v = some x) (hl : xAssert P v asserted ok = some u) :
    MeansV G B w0 ε S ((Instr.typeAssert x xt asserted ok).run P w) u S := by
  unfold xAssert at hl
  simp only at hl
  split at hl <;> try (simp at hl; done)
  · rename_i want t v ht
    simp only [γ, Option.map_eq_some_iff] at hv
    obtain ⟨y, h1, rfl⟩ := hv
    split at hl <;> try (simp at hl; done)
    rename_i i hi
    split at hl
    · rename_i hm
      have hm := missingMethod_none hm
      simp at hl; subst hl
      cases ok
      · exact MeansV.same h (x := .iface t y) (by simp [Instr.typeAssert, run_underlying ht, typeInfo, hi, hm]) (by simp [γ, h1])
      · exact MeansV.same h (x := .tuple #[.iface t y, .bool true]) (by simp [Instr.typeAssert, run_underlying ht, typeInfo, hi, hm]) (by simp [γ, γs, h1])
    · rename_i s0 s1 hm
      obtain ⟨s, hm⟩ := missingMethod_some (want := want) (got := i.methods) (by rw [hm]; simp)
      split at hl <;> try (simp at hl; done)
      rename_i hok
      subst hok
      split at hl <;> simp at hl
      rename_i z hz
      subst hl
      obtain ⟨zx, hzx, hzγ⟩ := run_zeroOf (w := w) hz
      exact MeansV.same h (x := .tuple #[zx, .bool false]) (by simp [Instr.typeAssert, run_underlying ht, typeInfo, hi, hm, hzx]) (by simp [γ, γs, hzγ])
  · obtain ⟨d, ht⟩ : ∃ d, P.underlying asserted = some d := ⟨_, by assumption⟩
    split at hl <;> try (simp at hl; done)
    rename_i hok
    subst hok
    split at hl <;> simp at hl
    rename_i z hz
    subst hl
    simp only [γ, Option.some.injEq] at hv
    subst hv
    obtain ⟨zx, hzx, hzγ⟩ := run_zeroOf (w := w) hz
    refine MeansV.same h (x := .tuple #[zx, .bool false]) ?_ (by simp [γ, γs, hzγ])
    cases d <;> simp [Instr.typeAssert, run_underlying ht, hzx]
  · rename_i d t v hne _ ht
    simp only [γ, Option.map_eq_some_iff] at hv
    obtain ⟨y, h1, rfl⟩ := hv
    split at hl
    · rename_i hta
      subst hta
      simp at hl; subst hl
      cases ok
      · refine MeansV.same h (x := y) ?_ (by simpa using h1)
        cases d <;> first | (exact absurd rfl (hne _)) | simp [Instr.typeAssert, run_underlying ht]
      · refine MeansV.same h (x := .tuple #[y, .bool true]) ?_ (by simp [γ, γs, h1])
        cases d <;> first | (exact absurd rfl (hne _)) | simp [Instr.typeAssert, run_underlying ht]
    · rename_i hta
      split at hl <;> try (simp at hl; done)
      rename_i hok
      subst hok
      split at hl <;> simp at hl
      rename_i z hz
      subst hl
      obtain ⟨zx, hzx, hzγ⟩ := run_zeroOf (w := w) hz
      refine MeansV.same h (x := .tuple #[zx, .bool false]) ?_ (by simp [γ, γs, hzγ])
      cases d <;> first | (exact absurd rfl (hne _)) | simp [Instr.typeAssert, run_underlying ht, hzx, hta]
end
end
end Go.Rx
/- The reflective executor, part 11: an operation, a list of operations, code, calls. -/
namespace Go.Rx
noncomputable section
open Go.RowKit
section
variable {P : Program} {G B : Nat} {w0 w : World} {ε : Env} {S : St}

/-! ### Ranging over a string of ASCII -/
def xRange (P : Program) (t : TypeId) (v : AV) (S : St) : Option (AV × St) :=
  match P.underlying t, v with
  | some .string, .str s => some (.ptr S.nxt 0, S.new (.sit s 0))
  | _, _ => none
theorem range_means (h : Rel G B w0 ε S w) {t : TypeId} {v : AV} {x : Value} {u : AV × St} (hv : γ ε v = some x) (hl : xRange P t v S = some u) :
    MeansV G B w0 ε S ((Instr.range t x).run P w) u.1 u.2 := by
  unfold xRange at hl
  split at hl <;> simp at hl
  rename_i s ht
  subst hl
  simp only [γ] at hv
  split at hv <;> simp at hv
  rename_i hs
  subst hv
  refine ⟨_, _, ε.set S.nxt w.heap.size 0, run_range_string w t (bs s) ht, Env.agr_set _ _ _ _, by simp [γ, Env.set], h.alloc _ _ 0 (fun ε' _ _ => ⟨hs, rfl⟩), by simp [St.nxt_new]⟩
def xNext (v : AV) (S : St) : Option (AV × St) :=
  match v with
  | .ptr i 0 => match S.get i with
    | some (.sit s pos) => match s[pos]? with
      | some c => if c < 128 then some (.tup [.bool true, .int .i64 pos, .int .i32 c], S.put i (some (.sit s (pos + 1)))) else none
      | none => some (.tup [.bool false], S)
    | _ => none
  | _ => none
theorem next_means (h : Rel G B w0 ε S w) {ty : TypeId} {v : AV} {x : Value} {u : AV × St} (hv : γ ε v = some x) (hl : xNext v S = some u) :
    MeansV G B w0 ε S ((Instr.next x true ty).run P w) u.1 u.2 := by
  unfold xNext at hl
  split at hl <;> try (simp at hl; done)
  rename_i i
  split at hl <;> try (simp at hl; done)
  rename_i s pos hget
  obtain ⟨b, o, h1, h2, ⟨hs, rfl⟩, h4⟩ := h.live _ _ hget
  simp only [γ, h1, Option.map_some, Option.some.injEq] at hv
  subst hv
  split at hl
  · rename_i c hc
    split at hl <;> simp at hl
    rename_i h128
    subst hl
    have hlen : pos < s.length := (List.getElem?_eq_some_iff.1 hc).1
    have hlen' : pos < (bs s).size := by rw [bs_size]; exact hlen
    have hget' : (bs s)[pos]'hlen' = UInt8.ofNat c := by
      have e1 : (bs s).data.toList[pos]? = some (UInt8.ofNat c) := by rw [bs_data]; simp [hc]
      have e2 : (bs s)[pos]'hlen' = (bs s).data[pos]'hlen' := rfl
      rw [e2]
      rw [Array.getElem?_toList] at e1
      rw [Array.getElem?_eq_getElem (by exact hlen')] at e1
      exact Option.some.inj e1
    have hnat : ((bs s)[pos]'hlen').toNat = c := by rw [hget']; simp [UInt8.toNat_ofNat']; omega
    have hdec := decode_ascii (bs s) pos hlen' (by omega)
    rw [hnat] at hdec
    have hblt := (Array.getElem?_eq_some_iff.1 h2).1
    have hbne : ∀ (c' : Array Value) (e : TypeId) (f : Nat × Nat), w.heap[b]? ≠ some (.cells c' e f) := by intro c' e f; rw [h2]; simp
    refine ⟨.tuple #[.bool true, .int .i64 pos, .int .i32 c], { w with heap := w.heap.setIfInBounds b (.stringIter (bs s) (pos + 1)) }, ε, ?_, Env.agr_refl _ _, by simp [γ, γs], ?_, by simp [St.put]⟩
    · simp [Instr.next, getObj, setObj, Sem.run, h2, hlen', hdec, goInt]
    · refine h.setBlk hget rfl h1 ⟨rfl, rfl, rfl, by simp⟩ (fun k hk => by simp [Array.getElem?_setIfInBounds_ne (Ne.symm hk)]) (o := .stringIter (bs s) (pos + 1)) (by simp [hblt]) ⟨hs, rfl⟩
  · rename_i hc
    simp at hl; subst hl
    have hlen : ¬ pos < (bs s).size := by
      rw [bs_size]
      rw [List.getElem?_eq_none_iff] at hc
      omega
    exact MeansV.same h (x := .tuple #[.bool false]) (by simp [Instr.next, getObj, Sem.run, h2, hlen]) (by simp [γ, γs])

def xop (P : Program) (G : Nat) (E : Ext) (A : List AV) (S : St) (o : Oper) : Option NX :=
  match o.op with
  | .move x | .assign x => match ev G A x with
    | some v => some (.val v S)
    | none => none
  | .pick c a b => match ev G A c with
    | some (.bool t) => match ev G A (if t then a else b) with
      | some v => some (.val v S)
      | none => none
    | _ => none
  | .alloc e => match zeroOf P e with
    | some z => some (.val (xBox e z S).1 (xBox e z S).2)
    | none => none
  | .box e x => match ev G A x with
    | some v => some (.val (xBox e v S).1 (xBox e v S).2)
    | none => none
  | .build t parts => match evp G A parts.toList with
    | some ps => match xBuild P t ps with
      | some v => some (.val v S)
      | none => none
    | none => none
  | .buildSlice t len parts => match evp G A parts.toList with
    | some ps => match xBuildSlice P t len ps S with
      | some u => some (.val u.1 u.2)
      | none => none
    | none => none
  | .load t a => match ev G A a with
    | some v => match xLoad P t v S with
      | some u => some (.val u S)
      | none => none
    | none => none
  | .store t a x => match ev G A a, ev G A x with
    | some v, some u => match xStore P t v u S with
      | some S' => some (.unit S')
      | none => none
    | _, _ => none
  | .nilCheck x => match ev G A x with
    | some v => if xNil v then some (.val v S) else none
    | none => none
  | .binOp op t x y _ => match ev G A x, ev G A y with
    | some v, some u => match xBin P op t x y v u with
      | some r => some (.val r S)
      | none => none
    | _, _ => none
  | .unOp op _ x => match ev G A x with
    | some v => match sc v with
      | some y => match pureM P (Op.unary op y) with
        | some z => match cv 2 z with
          | some u => some (.val u S)
          | none => none
        | none => none
      | none => none
    | none => none
  | .convert src dst x => match ev G A x with
    | some v => match xConv P src dst v S with
      | some u => some (.val u.1 u.2)
      | none => none
    | none => none
  | .makeInterface t x => match ev G A x with
    | some v => match P.underlying t with
      | some (.interface _) => none
      | some _ => some (.val (.iface t v) S)
      | none => none
    | none => none
  | .makeFunc fn first captured => match evs G A first.toList, evs G A captured.toList with
    | some a, some c => some (.val (.func fn a c) S)
    | _, _ => none
  | .makeSlice t l c => match ev G A l, ev G A c with
    | some v, some u => match xMakeSlice P t v u S with
      | some r => some (.val r.1 r.2)
      | none => none
    | _, _ => none
  | .slice t x lo hi none => match ev G A x, evo G A lo, evo G A hi with
    | some v, some l, some h => match xSlice P t v l h S with
      | some u => some (.val u S)
      | none => none
    | _, _, _ => none
  | .fieldAddr t x f => match ev G A x with
    | some v => match xFieldAddr P t v f with
      | some u => some (.val u S)
      | none => none
    | none => none
  | .field t x f => match ev G A x with
    | some v => match xField P t v f with
      | some u => some (.val u S)
      | none => none
    | none => none
  | .indexAddr t x i => match ev G A x, ev G A i with
    | some v, some j => match xIndexAddr P t v j with
      | some u => some (.val u S)
      | none => none
    | _, _ => none
  | .index t x i => match ev G A x, ev G A i with
    | some v, some j => match xIndex P t v j with
      | some u => some (.val u S)
      | none => none
    | _, _ => none
  | .typeAssert x _ asserted ok => match ev G A x with
    | some v => match xAssert P v asserted ok with
      | some u => some (.val u S)
      | none => none
    | none => none
  | .extract t ix => match ev G A t with
    | some (.tup l) => match l[ix]? with
      | some v => some (.val v S)
      | none => none
    | _ => none
  | .range t x => match ev G A x with
    | some v => match xRange P t v S with
      | some u => some (.val u.1 u.2)
      | none => none
    | none => none
  | .next it true => match ev G A it with
    | some v => match xNext v S with
      | some u => some (.val u.1 u.2)
      | none => none
    | none => none
  | .call c => xCall P G E A S c o.type
  | .defer c => match c.callee, evs G A c.args.toList with
    | .value f, some args => match ev G A f with
      | some (.func (.func g) first captured) => some (.dfr (.idle g (first.length + args.length + captured.length)) S)
      | _ => none
    | _, _ => none
  | _ => none

theorem Means.value (h : Rel G B w0 ε S w) {s : Sem Next} {x : Value} {v : AV} (hr : s.run P w = .ok (.value x) w) (hv : γ ε v = some x) : Means G B w0 ε S (s.run P w) (.val v S) :=
  ⟨x, w, ε, hr, Env.agr_refl _ _, hv, h, Nat.le_refl _⟩
theorem xop_means (h : Rel G B w0 ε S w) {E : Ext} (hE : EOk P G E) {ds : List Deferred} {A : List AV} {a : Act} (ha : AR ε ds A a) {o : Oper} {n : NX} (hl : xop P G E A S o = some n) :
    Means G B w0 ε S ((execOp a.eval o).run P w) n := by
  obtain ⟨dst, op, ty, pos, after, guard⟩ := o
  unfold xop at hl
  simp only at hl
  split at hl
  · split at hl <;> simp at hl
    rename_i v hv
    subst hl
    exact Means.value h (by simp [execOp]) (ev_γ h ha hv)
  · split at hl <;> simp at hl
    rename_i v hv
    subst hl
    exact Means.value h (by simp [execOp]) (ev_γ h ha hv)
  · split at hl <;> try (simp at hl; done)
    rename_i c x y _ t ht
    split at hl <;> simp at hl
    rename_i v hv
    subst hl
    have h1 := ev_γ h ha ht
    have h2 := ev_γ h ha hv
    simp only [γ, Option.some.injEq] at h1
    refine Means.value h ?_ h2
    cases t <;> simp [execOp, ← h1, asBool]
  · split at hl <;> simp at hl
    rename_i z hz
    subst hl
    exact Means.of_v (alloc_means h hz)
  · split at hl <;> simp at hl
    rename_i v hv
    subst hl
    exact Means.of_v (box_means h (ev_γ h ha hv) _)
  · rename_i t parts
    split at hl <;> try (simp at hl; done)
    rename_i ps hps
    split at hl <;> simp at hl
    rename_i v hv
    subst hl
    have e : (parts.map fun (i, x) => (i, a.eval x)).toList = parts.toList.map fun (i, x) => (i, a.eval x) := by simp
    exact Means.of_v (build_means h (by rw [e]; exact evp_γ h ha hps) hv)
  · rename_i t len parts
    split at hl <;> try (simp at hl; done)
    rename_i ps hps
    split at hl <;> simp at hl
    rename_i v hv
    subst hl
    have e : (parts.map fun (i, x) => (i, a.eval x)).toList = parts.toList.map fun (i, x) => (i, a.eval x) := by simp
    exact Means.of_v (buildSlice_means h (by rw [e]; exact evp_γ h ha hps) hv)
  · split at hl <;> try (simp at hl; done)
    rename_i v hv
    split at hl <;> simp at hl
    rename_i u hu
    subst hl
    exact Means.of_v (load_means h (ev_γ h ha hv) hu)
  · split at hl <;> try (simp at hl; done)
    rename_i v u hv hu
    split at hl <;> simp at hl
    rename_i S' hS
    subst hl
    exact store_means h (ev_γ h ha hv) (ev_γ h ha hu) hS
  · split at hl <;> try (simp at hl; done)
    rename_i x v hv
    split at hl <;> simp at hl
    rename_i hn
    subst hl
    have h1 := ev_γ h ha hv
    refine Means.value h ?_ h1
    cases v <;> try (simp [xNil] at hn; done)
    case ptr => simp only [γ, Option.map_eq_some_iff] at h1; obtain ⟨b, hb, h1⟩ := h1; simp [execOp, ← h1]
    case iface => simp only [γ, Option.map_eq_some_iff] at h1; obtain ⟨b, hb, h1⟩ := h1; simp [execOp, ← h1]
    case func fn x y =>
      cases fn <;> try (simp [xNil] at hn; done)
      simp only [γ, Option.map_eq_some_iff, Option.bind_eq_some_iff] at h1; obtain ⟨b, hb, c, hc, h1⟩ := h1; simp [execOp, ← h1]
  · split at hl <;> try (simp at hl; done)
    rename_i v u hv hu
    split at hl <;> simp at hl
    rename_i r hr
    subst hl
    obtain ⟨z, h1, h2⟩ := bin_run (P := P) (ev_γ h ha hv) (ev_γ h ha hu) hr
    exact Means.of_v (MeansV.same h (h1 w) h2)
  · split at hl <;> try (simp at hl; done)
    rename_i v hv
    split at hl <;> try (simp at hl; done)
    rename_i y hy
    split at hl <;> try (simp at hl; done)
    rename_i z hz
    split at hl <;> simp at hl
    rename_i u hu
    subst hl
    have e := sc_γ hy (ev_γ h ha hv)
    subst e
    exact Means.of_v (MeansV.same h (pureM_run hz w) (cv_sound ε 2 z u hu))
  · split at hl <;> try (simp at hl; done)
    rename_i v hv
    split at hl <;> simp at hl
    rename_i u hu
    subst hl
    exact Means.of_v (conv_means h (ev_γ h ha hv) hu)
  · split at hl <;> try (simp at hl; done)
    rename_i v hv
    split at hl <;> simp at hl
    rename_i t x _ _ d hne hd
    subst hl
    refine Means.of_v (MeansV.same h ?_ (v := .iface t v) (x := .iface t (a.eval x)) (by simp [γ, ev_γ h ha hv]))
    simp only [Instr.makeInterface, Sem.run_bind, run_underlying hd, Result.andThen_ok]
    cases d <;> first | (exact absurd rfl (hne _)) | rfl
  · split at hl <;> simp at hl
    rename_i fn first captured _ _ x y hx hy
    subst hl
    have e1 : (first.map a.eval) = (first.toList.map a.eval).toArray := by apply Array.ext'; simp
    have e2 : (captured.map a.eval) = (captured.toList.map a.eval).toArray := by apply Array.ext'; simp
    refine Means.of_v (MeansV.same h (x := .func fn (first.map a.eval) (captured.map a.eval)) rfl ?_)
    rw [e1, e2]
    simp only [γ, evs_γ h ha hx, evs_γ h ha hy]
    rfl
  · split at hl <;> try (simp at hl; done)
    rename_i v u hv hu
    split at hl <;> simp at hl
    rename_i r hr
    subst hl
    exact Means.of_v (makeSlice_means h (ev_γ h ha hv) (ev_γ h ha hu) hr)
  · split at hl <;> try (simp at hl; done)
    rename_i v l hh hv hlo hhi
    split at hl <;> simp at hl
    rename_i u hu
    subst hl
    exact Means.of_v (slice_means h (ev_γ h ha hv) (evo_γ h ha hlo) (evo_γ h ha hhi) hu)
  · split at hl <;> try (simp at hl; done)
    rename_i v hv
    split at hl <;> simp at hl
    rename_i u hu
    subst hl
    exact Means.of_v (fieldAddr_means h (ev_γ h ha hv) hu)
  · split at hl <;> try (simp at hl; done)
    rename_i v hv
    split at hl <;> simp at hl
    rename_i u hu
    subst hl
    exact Means.of_v (field_means h (ev_γ h ha hv) hu)
  · split at hl <;> try (simp at hl; done)
    rename_i v u hv hu
    split at hl <;> simp at hl
    rename_i r hr
    subst hl
    exact Means.of_v (indexAddr_means h (ev_γ h ha hv) (ev_γ h ha hu) hr)
  · split at hl <;> try (simp at hl; done)
    rename_i v u hv hu
    split at hl <;> simp at hl
    rename_i r hr
    subst hl
    exact Means.of_v (index_means h (ev_γ h ha hv) (ev_γ h ha hu) hr)
  · split at hl <;> try (simp at hl; done)
    rename_i v hv
    split at hl <;> simp at hl
    rename_i u hu
    subst hl
    exact Means.of_v (assert_means h (ev_γ h ha hv) hu)
  · split at hl <;> try (simp at hl; done)
    rename_i ix _ l hv
    split at hl <;> simp at hl
    rename_i v hlv
    subst hl
    have h1 := ev_γ h ha hv
    simp only [γ, Option.map_eq_some_iff] at h1
    obtain ⟨xs, hxs, h1⟩ := h1
    obtain ⟨y, h2, h3⟩ := γs_get hxs hlv
    have h2' : xs.toArray[ix]? = some y := by simpa using h2
    exact Means.of_v (MeansV.same h (by rw [← h1]; simp [Instr.extract, h2]) h3)
  · split at hl <;> try (simp at hl; done)
    rename_i v hv
    split at hl <;> simp at hl
    rename_i u hu
    subst hl
    exact Means.of_v (range_means h (ev_γ h ha hv) hu)
  · split at hl <;> try (simp at hl; done)
    rename_i v hv
    split at hl <;> simp at hl
    rename_i u hu
    subst hl
    exact Means.of_v (next_means h (ev_γ h ha hv) hu)
  · exact call_means h hE ha hl
  · rename_i c
    split at hl <;> try (simp at hl; done)
    rename_i f args hf hargs
    split at hl <;> simp at hl
    rename_i g first captured hev
    subst hl
    have hfv := ev_γ h ha hev
    simp only [γ, Option.bind_eq_some_iff, Option.map_eq_some_iff] at hfv
    obtain ⟨xs, h1, ys, h2, h3⟩ := hfv
    have hx := evs_γ h ha hargs
    refine ⟨{ target := .fn (.func g) ys.toArray, args := xs.toArray ++ c.args.map a.eval }, w, ?_, ?_, h, Nat.le_refl _⟩
    · simp only [execOp, resolve, hf, ← h3, Deferred.ofValue, Sem.run_bind, Sem.run_pure, Result.andThen_ok]
    · refine ⟨_, rfl, ?_⟩
      have e1 := γs_length h1
      have e2 := γs_length h2
      have e3 := γs_length hx
      simp at e3
      simp [e1, e2, ← e3]
  · simp at hl
end
end
end Go.Rx
/- The reflective executor, part 12: operations that yield their value in whatever world; equality of abstract values and worlds. -/
namespace Go.Rx
noncomputable section
open Go.RowKit
section
variable {P : Program} {G B : Nat} {w0 w : World} {ε : Env} {S : St}

/-- A value in whatever world. -/
def PV (P : Program) (ε : Env) (s : Sem Value) (u : AV) : Prop := ∃ y, (∀ w, s.run P w = .ok y w) ∧ γ ε u = some y

theorem field_pv {t : TypeId} {v u : AV} {x : Value} {f : Nat} (hv : γ ε v = some x) (hl : xField P t v f = some u) : PV P ε (Instr.field t x f) u := by
  unfold xField at hl
  split at hl <;> try (simp at hl; done)
  rename_i cs fd hfd
  obtain ⟨fs, h1, h2⟩ := fieldT_spec hfd
  simp only [γ, Option.map_eq_some_iff] at hv
  obtain ⟨xs, hxs, rfl⟩ := hv
  obtain ⟨y, h3, h4⟩ := part_means (P := P) (xs := xs.toArray) (by simpa using hxs) hl
  exact ⟨y, fun w => by simp [Instr.field, run_underlying h1, h2, asAgg, h3], h4⟩
theorem fieldAddr_pv {t : TypeId} {v u : AV} {x : Value} {f : Nat} (hv : γ ε v = some x) (hl : xFieldAddr P t v f = some u) : PV P ε (Instr.fieldAt t x f) u := by
  unfold xFieldAddr at hl
  split at hl <;> try (simp at hl; done)
  rename_i i off fd hfd
  split at hl <;> try (simp at hl; done)
  rename_i n hn
  simp at hl; subst hl
  obtain ⟨fs, h1, h2⟩ := fieldT_spec hfd
  simp only [γ, Option.map_eq_some_iff] at hv
  obtain ⟨b, hb, rfl⟩ := hv
  refine ⟨.pointer (some ⟨b, off + fd.offset, none⟩), fun w => ?_, (by simp [γ, hb])⟩
  simp [Instr.fieldAt, run_underlying h1, h2, Instr.sureAddr, fieldPlace, run_sizeT hn, Addr.add_lit]
theorem indexAddr_pv {t : TypeId} {v ix u : AV} {x y : Value} (hv : γ ε v = some x) (hy : γ ε ix = some y) (hl : xIndexAddr P t v ix = some u) : PV P ε (Instr.indexAt t x y) u := by
  unfold xIndexAddr at hl
  split at hl <;> try (simp at hl; done)
  rename_i k j
  simp only [γ, Option.some.injEq] at hy
  subst hy
  split at hl <;> try (simp at hl; done)
  · rename_i e i off len c ht
    split at hl <;> try (simp at hl; done)
    rename_i n hn
    split at hl <;> try (simp at hl; done)
    rename_i hj
    simp at hl; subst hl
    simp only [γ, Option.map_eq_some_iff] at hv
    obtain ⟨b, hb, rfl⟩ := hv
    refine ⟨.pointer (some ⟨b, off + j.toNat * n, none⟩), fun w => ?_, (by simp [γ, hb])⟩
    simp [Instr.indexAt, asIntOf, run_underlying ht, hj, run_sizeT hn, Addr.add_lit]
  · rename_i len e i off ht
    split at hl <;> try (simp at hl; done)
    rename_i n hn
    split at hl <;> try (simp at hl; done)
    rename_i hj
    simp at hl; subst hl
    simp only [γ, Option.map_eq_some_iff] at hv
    obtain ⟨b, hb, rfl⟩ := hv
    refine ⟨.pointer (some ⟨b, off + j.toNat * n, none⟩), fun w => ?_, (by simp [γ, hb])⟩
    simp [Instr.indexAt, asIntOf, run_underlying ht, Instr.sureAddr, hj, run_sizeT hn, Addr.add_lit]
/-- In a world of no blocks everything that asks none is as in any. -/
theorem index_pv {t : TypeId} {v ix u : AV} {x y : Value} (hv : γ ε v = some x) (hy : γ ε ix = some y) (hl : xIndex P t v ix = some u) : PV P ε (Instr.index t x y) u := by
  unfold xIndex at hl
  split at hl <;> try (simp at hl; done)
  rename_i k j
  simp only [γ, Option.some.injEq] at hy
  subst hy
  split at hl <;> try (simp at hl; done)
  · rename_i s ht
    split at hl <;> try (simp at hl; done)
    rename_i hj
    split at hl <;> try (simp at hl; done)
    rename_i c hc
    simp at hl; subst hl
    simp only [γ] at hv
    split at hv <;> simp at hv
    rename_i hok
    subst hv
    have hlt : c < 256 := by
      simp only [okb, List.all_eq_true, decide_eq_true_eq] at hok
      exact hok c (List.mem_of_getElem? hc)
    have hget : (bs s)[j.toNat]? = some (UInt8.ofNat c) := by
      have hlen : j.toNat < s.length := (List.getElem?_eq_some_iff.1 hc).1
      have hlen' : j.toNat < (bs s).size := by rw [bs_size]; exact hlen
      rw [getElem?_pos (bs s) j.toNat hlen']
      congr 1
      have h1 : (bs s).data.toList[j.toNat]? = some (UInt8.ofNat c) := by rw [bs_data]; simp [hc]
      have h2 : (bs s)[j.toNat]'hlen' = (bs s).data[j.toNat]'hlen' := rfl
      rw [h2]
      rw [Array.getElem?_toList] at h1
      rw [Array.getElem?_eq_getElem (by exact hlen')] at h1
      exact Option.some.inj h1
    have hnat : (UInt8.ofNat c).toNat = c := by simp [UInt8.toNat_ofNat']; omega
    refine ⟨.int .u8 c, fun w => ?_, (by simp [γ])⟩
    simp only [Instr.index, asIntOf, Sem.run_bind, Sem.run_pure, Result.andThen_ok, run_underlying ht, hj, if_true, hget, hnat]
  · rename_i len e cs ht
    split at hl <;> try (simp at hl; done)
    rename_i n hn
    split at hl <;> try (simp at hl; done)
    rename_i hj
    simp only [γ, Option.map_eq_some_iff] at hv
    obtain ⟨xs, hxs, rfl⟩ := hv
    obtain ⟨y, h3, h4⟩ := part_means (P := P) (xs := xs.toArray) (by simpa using hxs) hl
    exact ⟨y, fun w => by simp [Instr.index, asIntOf, run_underlying ht, hj, run_sizeT hn, h3], h4⟩
def emptySt : St := { ov := [], base := [], nxt := 0 }
theorem slice_pv {t : TypeId} {v u : AV} {x : Value} {lo hi : Option AV} {lo' hi' : Option Value} (hv : γ ε v = some x)
    (hlo : γo ε lo = some lo') (hhi : γo ε hi = some hi') (hl : xSlice P t v lo hi emptySt = some u) : PV P ε (Instr.sliceAt t x lo' hi' none) u := by
  unfold xSlice at hl
  split at hl <;> try (simp at hl; done)
  · rename_i s ht
    split at hl <;> try (simp at hl; done)
    rename_i l hh h1 h2
    split at hl <;> try (simp at hl; done)
    rename_i hc
    simp only [Bool.and_eq_true, decide_eq_true_eq] at hc
    simp at hl; subst hl
    simp only [γ] at hv
    split at hv <;> simp at hv
    rename_i hok
    subst hv
    refine ⟨.string ((bs s).extract l hh), fun w => ?_, (by simp [γ, bs_extract, okb_take (okb_drop hok l) (hh - l)])⟩
    have hb := run_bounds (P := P) (w := w) hlo hhi false (cap := s.length) h1 h2 hc.1 hc.2
    simp only [Instr.sliceAt, Instr.slice, Sem.run_bind, run_underlying ht, Result.andThen_ok, bs_size]
    simp [hb]
  · rename_i e i off len c ht
    split at hl <;> try (simp at hl; done)
    rename_i l hh n h1 h2 hn
    split at hl <;> try (simp at hl; done)
    rename_i hc
    simp only [Bool.and_eq_true, decide_eq_true_eq] at hc
    simp at hl; subst hl
    simp only [γ, Option.map_eq_some_iff] at hv
    obtain ⟨b, hb, rfl⟩ := hv
    refine ⟨.slice (some ⟨b, if c = l then off else off + l * n, none⟩) (hh - l) (c - l), fun w => ?_, (by simp [γ, hb, capOf])⟩
    have hbd := run_bounds (P := P) (w := w) hlo hhi true (cap := c) h1 h2 hc.1 hc.2
    simp only [Instr.sliceAt, Instr.slice, Sem.run_bind, run_underlying ht, Result.andThen_ok, capOf, hbd, run_sizeT hn, Sem.run_pure]
    split <;> simp [addr_add]
  · rename_i e i off len s ht
    split at hl <;> try (simp at hl; done)
    simp [capOk, emptySt, St.get, look] at hl
  · rename_i e ht
    split at hl <;> try (simp at hl; done)
    rename_i h1 h2 hn
    simp at hl; subst hl
    simp only [γ, Option.some.injEq] at hv
    subst hv
    refine ⟨.slice none 0 0, fun w => ?_, (by simp [γ])⟩
    have hbd := run_bounds (P := P) (w := w) hlo hhi true (cap := 0) h1 h2 (Nat.le_refl _) (Nat.le_refl _)
    simp [Instr.sliceAt, Instr.slice, run_underlying ht, hbd, run_sizeT hn]
  · rename_i c e i off ht
    split at hl <;> try (simp at hl; done)
    rename_i l hh n h1 h2 hn
    split at hl <;> try (simp at hl; done)
    rename_i hc
    simp only [Bool.and_eq_true, decide_eq_true_eq] at hc
    simp at hl; subst hl
    simp only [γ, Option.map_eq_some_iff] at hv
    obtain ⟨b, hb, rfl⟩ := hv
    refine ⟨.slice (some ⟨b, if c = l then off else off + l * n, none⟩) (hh - l) (c - l), fun w => ?_, (by simp [γ, hb, capOf])⟩
    have hbd := run_bounds (P := P) (w := w) hlo hhi false (cap := c) h1 h2 hc.1 hc.2
    simp only [Instr.sliceAt, Sem.run_bind, run_underlying ht, Result.andThen_ok, Instr.sureAddr, Sem.run_pure, hbd, run_sizeT hn]
    split <;> simp [addr_add]
theorem build_pv {t : TypeId} {parts : List (Nat × AV)} {xs : Array (Nat × Value)} {u : AV} (hp : γp ε parts = some xs.toList) (hl : xBuild P t parts = some u) : PV P ε (Instr.build t xs) u := by
  unfold xBuild at hl
  split at hl <;> try (simp at hl; done)
  · rename_i z fs hz ht
    obtain ⟨i, x, h1, h2, h3⟩ := zeroOf_spec hz
    cases hpl : placesT P t with
    | none => simp [hpl] at hl
    | some places =>
      simp only [hpl, Option.map_eq_some_iff] at hl
      obtain ⟨r, hr, rfl⟩ := hl
      obtain ⟨Y, h4, h5⟩ := xFill_sound parts xs.toList _ x.cells r hp (γ_cells (h3 ε)) hr
      have hb : P.built t xs.toList = some Y := by
        unfold placesT at hpl
        simp only [ht] at hpl
        unfold Program.built
        simp only [h1, ht, h2, hpl]
        rw [← h4]
        congr 1
        funext i
        simp
      exact ⟨_, fun w => run_build w t xs Y hb, (by simp [γ, h5])⟩
  · rename_i z n0 e hz ht
    obtain ⟨i, x, h1, h2, h3⟩ := zeroOf_spec hz
    split at hl <;> try (simp at hl; done)
    rename_i n hn
    simp only [Option.map_eq_some_iff] at hl
    obtain ⟨r, hr, rfl⟩ := hl
    obtain ⟨Y, h4, h5⟩ := xFill_sound parts xs.toList _ x.cells r hp (γ_cells (h3 ε)) hr
    have hb : P.built t xs.toList = some Y := by
      unfold sizeT at hn
      cases hie : P.info? e with
      | none => simp [hie] at hn
      | some ie =>
        simp [hie] at hn
        unfold Program.built
        simp only [h1, ht, h2, hie, hn]
        exact h4
    exact ⟨_, fun w => run_build w t xs Y hb, (by simp [γ, h5])⟩

def xpure (P : Program) (G : Nat) (A : List AV) (o : Oper) : Option AV :=
  match o.op with
  | .move x | .assign x => ev G A x
  | .pick c a b => match ev G A c with
    | some (.bool t) => ev G A (if t then a else b)
    | _ => none
  | .build t parts => match evp G A parts.toList with
    | some ps => xBuild P t ps
    | none => none
  | .nilCheck x => match ev G A x with
    | some v => if xNil v then some v else none
    | none => none
  | .binOp op t x y _ => match ev G A x, ev G A y with
    | some v, some u => xBin P op t x y v u
    | _, _ => none
  | .unOp op _ x => match ev G A x with
    | some v => match sc v with
      | some y => match pureM P (Op.unary op y) with
        | some z => cv 2 z
        | none => none
      | none => none
    | none => none
  | .convert src dst x => match ev G A x with
    | some v => match sc v with
      | some y => match pureM P (convert src dst y) with
        | some z => cv 2 z
        | none => none
      | none => none
    | none => none
  | .makeInterface t x => match ev G A x with
    | some v => match P.underlying t with
      | some (.interface _) => none
      | some _ => some (.iface t v)
      | none => none
    | none => none
  | .makeFunc fn first captured => match evs G A first.toList, evs G A captured.toList with
    | some a, some c => some (.func fn a c)
    | _, _ => none
  | .slice t x lo hi none => match ev G A x, evo G A lo, evo G A hi with
    | some v, some l, some h => xSlice P t v l h emptySt
    | _, _, _ => none
  | .fieldAddr t x f => match ev G A x with
    | some v => xFieldAddr P t v f
    | none => none
  | .field t x f => match ev G A x with
    | some v => xField P t v f
    | none => none
  | .indexAddr t x i => match ev G A x, ev G A i with
    | some v, some j => xIndexAddr P t v j
    | _, _ => none
  | .index t x i => match ev G A x, ev G A i with
    | some v, some j => xIndex P t v j
    | _, _ => none
  | .extract t ix => match ev G A t with
    | some (.tup l) => l[ix]?
    | _ => none
  | _ => none
theorem pv_val {s : Sem Value} {u : AV} (h : PV P ε s u) : ∃ y, (∀ w, (do pure (Next.value (← s)) : Sem Next).run P w = .ok (.value y) w) ∧ γ ε u = some y := by
  obtain ⟨y, h1, h2⟩ := h
  exact ⟨y, fun w => by simp [h1], h2⟩
theorem xpure_sound (h : Rel G B w0 ε S w) {ds : List Deferred} {A : List AV} {a : Act} (ha : AR ε ds A a) {o : Oper} {u : AV} (hl : xpure P G A o = some u) :
    ∃ y, (∀ w, (execOp a.eval o).run P w = .ok (.value y) w) ∧ γ ε u = some y := by
  obtain ⟨dst, op, ty, pos, after, guard⟩ := o
  unfold xpure at hl
  simp only at hl
  split at hl
  · exact ⟨_, fun w => by simp [execOp], ev_γ h ha hl⟩
  · exact ⟨_, fun w => by simp [execOp], ev_γ h ha hl⟩
  · split at hl <;> try (simp at hl; done)
    rename_i c x y _ t ht
    have h1 := ev_γ h ha ht
    have h2 := ev_γ h ha hl
    simp only [γ, Option.some.injEq] at h1
    exact ⟨_, fun w => by cases t <;> simp [execOp, ← h1, asBool], h2⟩
  · rename_i t parts
    split at hl <;> try (simp at hl; done)
    rename_i ps hps
    have e : (parts.map fun (i, x) => (i, a.eval x)).toList = parts.toList.map fun (i, x) => (i, a.eval x) := by simp
    exact pv_val (build_pv (by rw [e]; exact evp_γ h ha hps) hl)
  · split at hl <;> try (simp at hl; done)
    rename_i x v hv
    split at hl <;> simp at hl
    rename_i hn
    subst hl
    have h1 := ev_γ h ha hv
    refine ⟨_, fun w => ?_, h1⟩
    cases v <;> try (simp [xNil] at hn; done)
    case ptr => simp only [γ, Option.map_eq_some_iff] at h1; obtain ⟨b, hb, h1⟩ := h1; simp [execOp, ← h1]
    case iface => simp only [γ, Option.map_eq_some_iff] at h1; obtain ⟨b, hb, h1⟩ := h1; simp [execOp, ← h1]
    case func fn x y =>
      cases fn <;> try (simp [xNil] at hn; done)
      simp only [γ, Option.map_eq_some_iff, Option.bind_eq_some_iff] at h1; obtain ⟨b, hb, c, hc, h1⟩ := h1; simp [execOp, ← h1]
  · split at hl <;> try (simp at hl; done)
    rename_i v u hv hu
    exact pv_val (bin_run (P := P) (ev_γ h ha hv) (ev_γ h ha hu) hl)
  · split at hl <;> try (simp at hl; done)
    rename_i v hv
    split at hl <;> try (simp at hl; done)
    rename_i y hy
    split at hl <;> try (simp at hl; done)
    rename_i z hz
    have e := sc_γ hy (ev_γ h ha hv)
    subst e
    exact pv_val ⟨z, pureM_run hz, cv_sound ε 2 z u hl⟩
  · split at hl <;> try (simp at hl; done)
    rename_i v hv
    split at hl <;> try (simp at hl; done)
    rename_i y hy
    split at hl <;> try (simp at hl; done)
    rename_i z hz
    have e := sc_γ hy (ev_γ h ha hv)
    subst e
    exact pv_val ⟨z, pureM_run hz, cv_sound ε 2 z u hl⟩
  · split at hl <;> try (simp at hl; done)
    rename_i v hv
    split at hl <;> simp at hl
    rename_i t x _ _ d hne hd
    subst hl
    refine pv_val ⟨.iface t (a.eval x), fun w => ?_, (by simp [γ, ev_γ h ha hv])⟩
    simp only [Instr.makeInterface, Sem.run_bind, run_underlying hd, Result.andThen_ok]
    cases d <;> first | (exact absurd rfl (hne _)) | rfl
  · split at hl <;> simp at hl
    rename_i fn first captured _ _ x y hx hy
    subst hl
    have e1 : (first.map a.eval) = (first.toList.map a.eval).toArray := by apply Array.ext'; simp
    have e2 : (captured.map a.eval) = (captured.toList.map a.eval).toArray := by apply Array.ext'; simp
    refine pv_val ⟨.func fn (first.map a.eval) (captured.map a.eval), fun w => rfl, ?_⟩
    rw [e1, e2]
    simp only [γ, evs_γ h ha hx, evs_γ h ha hy]
    rfl
  · split at hl <;> try (simp at hl; done)
    rename_i v l hh hv hlo hhi
    exact pv_val (slice_pv (ev_γ h ha hv) (evo_γ h ha hlo) (evo_γ h ha hhi) hl)
  · split at hl <;> try (simp at hl; done)
    rename_i v hv
    exact pv_val (fieldAddr_pv (ev_γ h ha hv) hl)
  · split at hl <;> try (simp at hl; done)
    rename_i v hv
    exact pv_val (field_pv (ev_γ h ha hv) hl)
  · split at hl <;> try (simp at hl; done)
    rename_i v u hv hu
    exact pv_val (indexAddr_pv (ev_γ h ha hv) (ev_γ h ha hu) hl)
  · split at hl <;> try (simp at hl; done)
    rename_i v u hv hu
    exact pv_val (index_pv (ev_γ h ha hv) (ev_γ h ha hu) hl)
  · split at hl <;> try (simp at hl; done)
    rename_i ix _ l hv
    have h1 := ev_γ h ha hv
    simp only [γ, Option.map_eq_some_iff] at h1
    obtain ⟨xs, hxs, h1⟩ := h1
    obtain ⟨y, h2, h3⟩ := γs_get hxs hl
    have h2' : xs.toArray[ix]? = some y := by simpa using h2
    exact pv_val ⟨y, fun w => by rw [← h1]; simp [Instr.extract, h2], h3⟩
  · simp at hl
end
end
end Go.Rx
/- The reflective executor, part 13: equality of abstract things; what is still reached; code, loops, calls. -/
namespace Go.Rx
noncomputable section
open Go.RowKit

mutual
def AV.beq : AV → AV → Bool
  | .int k n, .int k' n' => decide (k = k') && decide (n = n')
  | .bool b, .bool b' => decide (b = b')
  | .flt k n, .flt k' n' => decide (k = k') && decide (n = n')
  | .str s, .str s' => neq s s'
  | .ptr i o, .ptr i' o' => decide (i = i') && decide (o = o')
  | .nilptr, .nilptr => true
  | .slc i o l (.ex c), .slc i' o' l' (.ex c') => decide (i = i') && decide (o = o') && decide (l = l') && decide (c = c')
  | .slc i o l (.blk c), .slc i' o' l' (.blk c') => decide (i = i') && decide (o = o') && decide (l = l') && decide (c = c')
  | .nilslc, .nilslc => true
  | .nilmap, .nilmap => true
  | .nilfunc, .nilfunc => true
  | .niliface, .niliface => true
  | .yld i, .yld j => decide (i = j)
  | .zs i o s l n, .zs i' o' s' l' n' => decide (i = i') && decide (o = o') && decide (s = s') && decide (l = l') && decide (n = n')
  | .func (.func f) a c, .func (.func f') a' c' => decide (f = f') && AVs.beq a a' && AVs.beq c c'
  | .iface t v, .iface t' v' => decide (t = t') && AV.beq v v'
  | .agg l, .agg l' => AVs.beq l l'
  | .tup l, .tup l' => AVs.beq l l'
  | _, _ => false
def AVs.beq : List AV → List AV → Bool
  | [], [] => true
  | v :: l, v' :: l' => AV.beq v v' && AVs.beq l l'
  | _, _ => false
end
theorem neq_eq : ∀ {s t : List Nat}, neq s t = true → s = t
  | [], [], _ => rfl
  | [], b :: t, h => by simp [neq] at h
  | a :: s, [], h => by simp [neq] at h
  | a :: s, b :: t, h => by
    simp only [neq, Bool.and_eq_true, decide_eq_true_eq] at h
    rw [h.1, neq_eq h.2]
mutual
theorem AV.beq_eq : ∀ (a b : AV), AV.beq a b = true → a = b
  | .int k n, b, h => by cases b <;> simp_all [AV.beq]
  | .bool x, b, h => by cases b <;> simp_all [AV.beq]
  | .flt k n, b, h => by cases b <;> simp_all [AV.beq]
  | .str s, b, h => by
    cases b <;> simp [AV.beq] at h
    rw [neq_eq h]
  | .ptr i o, b, h => by cases b <;> simp_all [AV.beq]
  | .nilptr, b, h => by cases b <;> simp_all [AV.beq]
  | .slc i o l c, b, h => by
    cases b <;> try (simp [AV.beq] at h; done)
    rename_i i' o' l' c'
    cases c <;> cases c' <;> simp_all [AV.beq]
  | .nilslc, b, h => by cases b <;> simp_all [AV.beq]
  | .nilmap, b, h => by cases b <;> simp_all [AV.beq]
  | .nilfunc, b, h => by cases b <;> simp_all [AV.beq]
  | .niliface, b, h => by cases b <;> simp_all [AV.beq]
  | .yld i, b, h => by cases b <;> simp_all [AV.beq]
  | .zs i o s l n, b, h => by cases b <;> simp_all [AV.beq]
  | .func fn x y, b, h => by
    cases b <;> try (simp [AV.beq] at h; done)
    rename_i fn' x' y'
    cases fn <;> cases fn' <;> simp [AV.beq] at h
    obtain ⟨⟨rfl, h1⟩, h2⟩ := h
    rw [AVs.beq_eq x x' h1, AVs.beq_eq y y' h2]
  | .iface t v, b, h => by
    cases b <;> simp [AV.beq] at h
    rename_i t' v'
    obtain ⟨rfl, h1⟩ := h
    rw [AV.beq_eq v v' h1]
  | .agg l, b, h => by
    cases b <;> simp [AV.beq] at h
    rename_i l'
    rw [AVs.beq_eq l l' h]
  | .tup l, b, h => by
    cases b <;> simp [AV.beq] at h
    rename_i l'
    rw [AVs.beq_eq l l' h]
theorem AVs.beq_eq : ∀ (a b : List AV), AVs.beq a b = true → a = b
  | [], b, h => by cases b <;> simp_all [AVs.beq]
  | v :: l, b, h => by
    cases b with
    | nil => simp [AVs.beq] at h
    | cons v' l' =>
      simp only [AVs.beq, Bool.and_eq_true] at h
      rw [AV.beq_eq v v' h.1, AVs.beq_eq l l' h.2]
end
def ABlk.beq : ABlk → ABlk → Bool
  | .cells cs e o w, .cells cs' e' o' w' => AVs.beq cs cs' && decide (e = e') && decide (o = o') && decide (w = w')
  | .sit s p, .sit s' p' => neq s s' && decide (p = p')
  | _, _ => false
theorem ABlk.beq_eq {a b : ABlk} (h : ABlk.beq a b = true) : a = b := by
  cases a <;> cases b <;> simp [ABlk.beq] at h
  · obtain ⟨⟨⟨h1, rfl⟩, rfl⟩, rfl⟩ := h
    rw [AVs.beq_eq _ _ h1]
  · obtain ⟨h1, rfl⟩ := h
    rw [neq_eq h1]
def Bl.beq : Bl → Bl → Bool
  | [], [] => true
  | (i, none) :: l, (j, none) :: m => decide (i = j) && Bl.beq l m
  | (i, some a) :: l, (j, some b) :: m => decide (i = j) && ABlk.beq a b && Bl.beq l m
  | _, _ => false
theorem Bl.beq_eq : ∀ {l m : Bl}, Bl.beq l m = true → l = m
  | [], [], _ => rfl
  | [], _ :: _, h => by simp [Bl.beq] at h
  | (i, none) :: l, [], h => by simp [Bl.beq] at h
  | (i, some a) :: l, [], h => by simp [Bl.beq] at h
  | (i, none) :: l, (j, none) :: m, h => by
    simp only [Bl.beq, Bool.and_eq_true, decide_eq_true_eq] at h
    rw [h.1, Bl.beq_eq h.2]
  | (i, none) :: l, (j, some b) :: m, h => by simp [Bl.beq] at h
  | (i, some a) :: l, (j, none) :: m, h => by simp [Bl.beq] at h
  | (i, some a) :: l, (j, some b) :: m, h => by
    simp only [Bl.beq, Bool.and_eq_true, decide_eq_true_eq] at h
    rw [h.1.1, ABlk.beq_eq h.1.2, Bl.beq_eq h.2]

/-! ### What is still reached -/
mutual
def AV.ids : AV → List Nat
  | .ptr i _ => [i]
  | .slc i _ _ _ => [i]
  | .yld i => [i]
  | .zs i _ _ _ _ => [i]
  | .func _ a c => AVs.ids a ++ AVs.ids c
  | .iface _ v => AV.ids v
  | .agg l => AVs.ids l
  | .tup l => AVs.ids l
  | _ => []
def AVs.ids : List AV → List Nat
  | [] => []
  | v :: l => AV.ids v ++ AVs.ids l
end
def ABlk.ids : ABlk → List Nat
  | .cells cs _ _ _ => AVs.ids cs
  | .sit _ _ => []
  | .dfr => []
  | .lp _ _ A _ _ _ D => D :: AVs.ids A
def memN (n : Nat) : List Nat → Bool
  | [] => false
  | m :: l => if m = n then true else memN n l
/-- From the numbers 'todo' on, those from n0 on that blocks of 'ov' lead to. -/
def reach (n0 : Nat) (ov : Bl) : Nat → List Nat → List Nat → List Nat
  | 0, _, seen => seen
  | _ + 1, [], seen => seen
  | fuel + 1, i :: todo, seen =>
    if i < n0 then reach n0 ov fuel todo seen
    else if memN i seen then reach n0 ov fuel todo seen
    else match look ov i with
      | some (some b) => reach n0 ov fuel (ABlk.ids b ++ todo) (i :: seen)
      | _ => reach n0 ov fuel todo (i :: seen)
def oldIds (n0 : Nat) : Bl → List Nat
  | [] => []
  | (i, some b) :: l => if i < n0 then ABlk.ids b ++ oldIds n0 l else oldIds n0 l
  | (_, none) :: l => oldIds n0 l
def keepOv (n0 : Nat) (seen : List Nat) : Bl → Bl
  | [] => []
  | (i, b) :: l => if i < n0 then (i, b) :: keepOv n0 seen l else if memN i seen then (i, b) :: keepOv n0 seen l else keepOv n0 seen l
def mergeOv (n0 : Nat) (kept ov : Bl) : Bl :=
  match kept with
  | [] => ov
  | (i, b) :: l => if i < n0 then upd (mergeOv n0 l ov) i b else (i, b) :: mergeOv n0 l ov
theorem look_mergeOv (n0 : Nat) (ov : Bl) : ∀ (kept : Bl) (k : Nat), look (mergeOv n0 kept ov) k = match look kept k with | some b => some b | none => look ov k
  | [], k => rfl
  | (i, b) :: l, k => by
    have ih := look_mergeOv n0 ov l k
    simp only [mergeOv]
    split
    · rw [look_upd, ih]
      by_cases h : i = k <;> simp [look, h]
    · simp only [look, ih]
      by_cases h : i = k <;> simp [h]
theorem look_keepOv (n0 : Nat) (seen : List Nat) : ∀ (ov : Bl) (k : Nat), look (keepOv n0 seen ov) k = look ov k ∨ (look (keepOv n0 seen ov) k = none ∧ n0 ≤ k)
  | [], k => .inl rfl
  | (i, b) :: l, k => by
    have ih := look_keepOv n0 seen l k
    simp only [keepOv]
    by_cases h1 : i < n0
    · simp only [h1, if_true, look]
      by_cases h : i = k
      · simp [h]
      · simpa [h] using ih
    · by_cases h2 : memN i seen = true
      · simp only [h1, if_false, h2, if_true, look]
        by_cases h : i = k
        · simp [h]
        · simpa [h] using ih
      · simp only [h1, if_false, h2, look, Bool.false_eq_true]
        by_cases h : i = k
        · subst h
          right
          refine ⟨?_, by omega⟩
          clear ih
          induction l with
          | nil => rfl
          | cons p l ih =>
            obtain ⟨j, c⟩ := p
            simp only [keepOv]
            by_cases hj1 : j < n0
            · have : ¬ j = i := by omega
              simp only [hj1, if_true, look, this, if_false]
              exact ih
            · by_cases hj2 : memN j seen = true
              · have : ¬ j = i := fun e => h2 (e ▸ hj2)
                simp only [hj1, if_false, hj2, if_true, look, this]
                exact ih
              · simp only [hj1, if_false, hj2, Bool.false_eq_true]
                exact ih
        · simpa [h] using ih
theorem mem_keepOv {n0 : Nat} {seen : List Nat} : ∀ {ov : Bl} {p : Nat × Option ABlk}, p ∈ keepOv n0 seen ov → p ∈ ov
  | [], p, h => by simp [keepOv] at h
  | (i, b) :: l, p, h => by
    simp only [keepOv] at h
    split at h
    · rcases List.mem_cons.1 h with rfl | h
      · simp
      · simp [mem_keepOv h]
    · split at h
      · rcases List.mem_cons.1 h with rfl | h
        · simp
        · simp [mem_keepOv h]
      · simp [mem_keepOv h]
theorem mergeOv_bnd {n0 n : Nat} {ov : Bl} (h : ∀ p ∈ ov, p.1 < n) : ∀ {kept : Bl}, (∀ p ∈ kept, p.1 < n) → ∀ p ∈ mergeOv n0 kept ov, p.1 < n
  | [], _, p, hp => h p hp
  | (i, b) :: l, hk, p, hp => by
    have ih := mergeOv_bnd (n0 := n0) h (kept := l) (fun q hq => hk q (by simp [hq]))
    simp only [mergeOv] at hp
    split at hp
    · exact upd_bnd ih (hk (i, b) (by simp)) b p hp
    · rcases List.mem_cons.1 hp with rfl | hp
      · exact hk _ (by simp)
      · exact ih p hp

/-- Behind a call: what it has turned of the caller's, and what its answer leads to. S: ahead of the call; R: behind it, over the caller's as its base. -/
def back (S : St) (v : List AV) (R : St) : St :=
  let seen := reach S.nxt R.ov 100000 (AVs.ids v ++ oldIds S.nxt R.ov) []
  { ov := mergeOv S.nxt (keepOv S.nxt seen R.ov) S.ov, base := S.base, nxt := R.nxt, dl := S.dl, rnd := S.rnd }
section
variable {P : Program} {G B : Nat} {w0 w : World} {ε : Env} {S : St}
theorem Rel.back {R : St} {v : List AV} (h : Rel G B w0 ε R w) (hb : R.base = S.ov ++ S.base) (h1 : ∀ p ∈ S.ov, p.1 < S.nxt) (h2 : ∀ p ∈ S.base, p.1 < S.nxt) (hn : S.nxt ≤ R.nxt) :
    Rel G B w0 ε (back S v R) w := by
  have b1 : ∀ p ∈ S.ov, p.1 < R.nxt := fun p hp => Nat.lt_of_lt_of_le (h1 p hp) hn
  refine h.sub rfl ?_ (fun p hp => Nat.lt_of_lt_of_le (h2 p hp) hn) ?_
  · exact mergeOv_bnd b1 fun p hp => h.bov p (mem_keepOv hp)
  · intro i b hget
    simp only [Go.Rx.back, St.get, look_mergeOv] at hget
    simp only [St.get, hb, look_append]
    rcases look_keepOv S.nxt (reach S.nxt R.ov 100000 (AVs.ids v ++ oldIds S.nxt R.ov) []) R.ov i with hk | ⟨hk, hi⟩
    · rw [hk] at hget
      cases hr : look R.ov i with
      | some c => simp only [hr] at hget ⊢; exact hget
      | none =>
        simp only [hr] at hget ⊢
        cases hs : look S.ov i with
        | some c => simp only [hs] at hget ⊢; exact hget
        | none => simp only [hs] at hget ⊢; exact hget
    · rw [hk] at hget
      simp only [look_none_of_bnd h1 i hi, look_none_of_bnd h2 i hi] at hget
      cases hget
/-- The world ahead of a call, as the callee's base. -/
def into (S : St) : St := { ov := [], base := S.ov ++ S.base, nxt := S.nxt }
theorem Rel.into (h : Rel G B w0 ε S w) : Rel G B w0 ε (into S) w := by
  refine h.sub rfl (by simp [Go.Rx.into]) ?_ ?_
  · intro p hp
    simp only [Go.Rx.into, List.mem_append] at hp
    rcases hp with hp | hp
    · exact h.bov p hp
    · exact h.bba p hp
  · intro i b hget
    simp only [Go.Rx.into, St.get, look, look_append] at hget
    simp only [St.get]
    cases hr : look S.ov i with
    | some c => simp only [hr] at hget ⊢; exact hget
    | none => simp only [hr] at hget ⊢; exact hget
end

/-! ### The executor -/
inductive XE where
  | normal
  | exit (id : Nat)
  | ret
def XE.out : XE → Exit
  | .normal => .normal
  | .exit id => .exit id
  | .ret => .ret
/-- The jump that a round's body leaves by. -/
def XE.jump : XE → Option Code
  | .normal => none
  | .exit id => some (.exit id)
  | .ret => some .ret
/-- S' with what S says of the activation. -/
def St.of (S S' : St) : St := { S' with dl := S.dl, rnd := S.rnd }
/-- The record of a loop, in another state. -/
def lpSet (S : St) (i : Nat) (st : LoopState) (pend : Option Code) : Option St :=
  match S.get i with
  | some (.lp _ _ A ps assign body D) => some (S.put i (some (.lp st pend A ps assign body D)))
  | _ => none
def loopOf (S : St) (i : Nat) : Option (LoopState × Option Code) :=
  match S.get i with
  | some (.lp st pend _ _ _ _ _) => some (st, pend)
  | _ => none
/-- The deferred calls, at a function's end. -/
def xLeave (I : List (FuncId × Nat)) : List AD → St → Option St
  | [], S => some S
  | .idle f n :: l, S => if I.any fun p => decide (p.1 = f) && decide (p.2 = n) then xLeave I l S else none
  | .coll i :: l, S => match S.get i with
    | some .dfr => xLeave I l (S.put i none)
    | _ => none
inductive Job where
  | code (c : Code) (A : List AV) (S : St)
  | rounds (c : Code) (A : List AV) (S : St)
  | call (f : FuncId) (args : List AV) (S : St)
  | draw (S0 : St) (W : List Nat) (all : Array Oper) (left : Nat) (listed : Array Bool) (A : List AV) (S : St)
  | rest (S0 : St) (W : List Nat) (all : Array Oper) (left : Nat) (listed : Array Bool) (is : List Nat) (A : List AV) (S : St) (A' : List AV) (S' : St)
  | one (S0 : St) (W : List Nat) (all : Array Oper) (left : Nat) (listed : Array Bool) (i : Nat) (A : List AV) (S : St)
abbrev Out := XE × List AV × St

def xput (A : List AV) (dst : Option Tmp) (v : AV) : List AV :=
  match dst with
  | some d => setN v A d
  | none => A
def xyield (all : Array Oper) (A : List AV) (j : Nat) : Option Bool :=
  match (all[j]?).bind (·.dst) with
  | some t => match A[t]? with
    | some (.bool b) => some b
    | _ => none
  | none => none
def xwanted (all : Array Oper) (A : List AV) (o : Oper) : Bool :=
  match o.guard with
  | none => true
  | some (j, want) => match xyield all A j with
    | some b => b == want
    | none => false
def xres (P : Program) (A : List AV) (S : St) : List ResultVar → Option (List AV)
  | [] => some []
  | .tmp t :: l => match xres P A S l with
    | some vs => some (A.getD t (.tup []) :: vs)
    | none => none
  | .cell a t :: l => match xLoad P t (A.getD a (.tup [])) S with
    | some v => match xres P A S l with
      | some vs => some (v :: vs)
      | none => none
    | none => none
def packRes : List AV → AV
  | [v] => v
  | l => .tup l
def rdy (listed : Array Bool) : List Oper → Nat → List Nat
  | [], _ => []
  | o :: l, i => if !listed.getD i true && o.after.toList.all (fun e => !Region.binds .any e || listed.getD e.on false) then i :: rdy listed l (i + 1) else rdy listed l (i + 1)
/-- A load of a block that the region does not write. -/
def xheld (P : Program) (G : Nat) (S0 : St) (W : List Nat) (A : List AV) (o : Oper) : Option AV :=
  match o.op with
  | .load t a => match ev G A a with
    | some (.ptr i off) => if memN i W then none else xLoad P t (.ptr i off) S0
    | _ => none
  | _ => none
/-- Of operations that may come up: one that yields its value in whatever world, or in whatever world that has the blocks that the region does not write, or is not wanted. -/
def firstPure (P : Program) (G : Nat) (S0 : St) (W : List Nat) (all : Array Oper) (A : List AV) : List Nat → Option (Nat × Oper × AV)
  | [] => none
  | i :: is => match all[i]? with
    | some o => if xwanted all A o then match xpure P G A o with
        | some v => some (i, o, v)
        | none => match xheld P G S0 W A o with
          | some v => some (i, o, v)
          | none => firstPure P G S0 W all A is
      else some (i, o, .tup [])
    | none => firstPure P G S0 W all A is
def hasEdge (o : Oper) (i : Nat) : Bool := o.after.toList.any fun e => Region.binds .any e && decide (e.on = i)
/-- Any two operations of which none waits for the other are apart. -/
def apartAll (all : Array Oper) : Bool :=
  all.toList.zipIdx.all fun (x, i) => all.toList.zipIdx.all fun (y, j) => decide (i = j) || hasEdge y i || hasEdge x j || x.apart all y
def obeq : Option ABlk → Option ABlk → Bool
  | some a, some b => ABlk.beq a b
  | none, none => true
  | _, _ => false
/-- What was told at the region's head is told still, but for the numbers in W. (Over one base.) -/
def agreeB (S0 : St) (W : List Nat) (S : St) : Bool :=
  (S0.ov.all fun (i, b) => memN i W || (match look S.ov i with | some b' => obeq b b' | none => false)) &&
  (S.ov.all fun (i, _) => decide (S0.nxt ≤ i) || memN i W || (look S0.ov i).isSome)
def written (S0 : St) (S : St) : List Nat :=
  S.ov.filterMap fun (i, b) => if S0.nxt ≤ i then none else match look S0.ov i with
    | some b0 => if obeq b0 b then none else some i
    | none => some i

/-- A call whose answer is known: function, arguments, answer; nothing that was there turns, nothing that it makes is told of. -/
abbrev Facts := List (FuncId × List AV × AV)
def fact : Facts → FuncId → List AV → Option AV
  | [], _, _ => none
  | (g, as, v) :: l, f, args => if g = f then (if AVs.beq as args then some v else fact l f args) else fact l f args

structure Cfg where
  P : Program
  G : Nat
  E : Ext
  F : Facts
  I : List (FuncId × Nat)
abbrev Rec := Job → Option Out

/-- One operation's outcome; calls by r. 'rd': rounds and deferred calls may come. -/
def stepN (r : Rec) (rd : Bool) (o : Oper) (A : List AV) (S : St) : NX → Option Out
  | .val v S' => some (.normal, xput A o.dst v, S.of S')
  | .unit S' => some (.normal, xput A o.dst (.tup []), S.of S')
  | .enter f args S' => match r (.call f args (S.of S')) with
    | some (_, [v], S'') => some (.normal, xput A o.dst v, S'')
    | _ => none
  | .dfr d S' => match rd, S.rnd with
    | true, none => some (.normal, xput A o.dst (.tup []), { S.of S' with dl := d :: S.dl })
    | _, _ => none
  | .round i A1 assign body S' => match rd, r (.code assign A1 { S' with dl := [], rnd := some i }) with
    | true, some (.normal, A2, S2) => match loopOf S2 i with
      | some (.ready, pend) => match lpSet S2 i .busy pend with
        | some S3 => match r (.code body A2 S3) with
          | some (e, _, S4) => match lpSet S4 i (if e.jump.isNone then .ready else .done) e.jump with
            | some S5 => some (.normal, xput A o.dst (.bool e.jump.isNone), S.of S5)
            | none => none
          | none => none
        | none => none
      | _ => none
    | _, _ => none
def stepF (K : Cfg) (r : Rec) (rd : Bool) (o : Oper) (A : List AV) (S : St) : Option Out :=
  match xop K.P K.G K.E A S o with
  | some n => stepN r rd o A S n
  | none => none
def opsC (K : Cfg) (r : Rec) (all : Array Oper) (o : Oper) (ih : List AV → St → Option Out) (A : List AV) (S : St) : Option Out :=
  match xwanted all A o with
  | true => match stepF K r true o A S with
    | some (_, A', S') => ih A' S'
    | none => none
  | false => ih (xput A o.dst (.tup [])) S
def opsF (K : Cfg) (r : Rec) (all : Array Oper) (l : List Oper) : List AV → St → Option Out :=
  List.rec (motive := fun _ => List AV → St → Option Out) (fun A S => some (.normal, A, S)) (fun o _ ih A S => opsC K r all o ih A S) l

def codeSeq (r : Rec) (b : Code) : Option Out → Option Out
  | some (.normal, A', S') => r (.code b A' S')
  | x => x
def codeCond (r : Rec) (t e : Code) (A : List AV) (S : St) : Option AV → Option Out
  | some (.bool true) => r (.code t A S)
  | some (.bool false) => r (.code e A S)
  | _ => none
def codeBlock (id : Nat) : Option Out → Option Out
  | some (.exit id', A', S') => some (if id' = id then .normal else .exit id', A', S')
  | x => x
def codeDraw (K : Cfg) (r : Rec) (ops : Array Oper) (A : List AV) (S : St) : Option Out :=
  match S.rnd, Region.noSelect ops && apartAll ops with
  | none, true => match opsF K r ops ops.toList A S with
    | some (_, _, S1) => r (.draw S (written S S1) ops ops.size (Array.replicate ops.size false) A S)
    | none => none
  | _, _ => none
def codeRange2 (r : Rec) (A : List AV) (S S2 : St) : Option Out :=
  match loopOf S2 (S.nxt + 1) with
  | some (.busy, _) => none
  | some (_, pend) => match lpSet S2 (S.nxt + 1) .exhausted pend with
    | some S3 => match pend with
      | none => some (.normal, A, { S3 with dl := .coll S.nxt :: S.dl })
      | some c => r (.code c A { S3 with dl := .coll S.nxt :: S.dl })
    | none => none
  | _ => none
def codeRange (K : Cfg) (r : Rec) (g : Operand) (ps : Array Tmp) (assign body : Code) (A : List AV) (S : St) : Option Out :=
  match S.rnd, ev K.G A g with
  | none, some (.func (.func f) first captured) => match funcOk K.P f with
    | true => match r (.call f (first ++ [.yld (S.nxt + 1)] ++ captured) ((S.new .dfr).new (.lp .ready none A ps assign body S.nxt))) with
      | some (_, _, S2) => codeRange2 r A S S2
      | none => none
    | false => none
  | _, _ => none
def codeF (K : Cfg) (r : Rec) (c : Code) (A : List AV) (S : St) : Option Out :=
  match c with
  | .skip => some (.normal, A, S)
  | .label _ => some (.normal, A, S)
  | .seq a b => codeSeq r b (r (.code a A S))
  | .cond c t e => codeCond r t e A S (ev K.G A c)
  | .block id body => codeBlock id (r (.code body A S))
  | .loop body => r (.rounds body A S)
  | .scope body => match S.rnd with
    | none => r (.code body A S)
    | some _ => none
  | .exit id => some (.exit id, A, S)
  | .ret => some (.ret, A, S)
  | .region _ ops false => opsF K r ops ops.toList A S
  | .region _ ops true => codeDraw K r ops A S
  | .rangeFunc g ps assign body => codeRange K r g ps assign body A S
  | .goto _ => none
  | .refuse _ => none
def roundsF (r : Rec) (c : Code) : Option Out → Option Out
  | some (.normal, A', S') => r (.rounds c A' S')
  | x => x
def callRes (K : Cfg) (fn : Func) (A' : List AV) (S S' : St) : Option Out :=
  match xLeave K.I S'.dl S' with
  | some S' => match xres K.P A' S' fn.results.toList with
    | some vs => some (.ret, [packRes vs], back S vs S')
    | none => none
  | none => none
def callF (K : Cfg) (r : Rec) (f : FuncId) (args : List AV) (S : St) : Option Out :=
  match fact K.F f args with
  | some v => some (.ret, [v], S)
  | none => match K.P.funcs[f]? with
    | some fn => match fn.body with
      | some c => match r (.code c (args ++ List.replicate (fn.ntmps - args.length) (.tup [])) (into S)) with
        | some (.exit _, _, _) => none
        | some (_, A', S') => callRes K fn A' S S'
        | none => none
      | none => none
    | none => none
def drawF (K : Cfg) (r : Rec) (S0 : St) (W : List Nat) (all : Array Oper) (left : Nat) (listed : Array Bool) (A : List AV) (S : St) : Option Out :=
  match rdy listed all.toList 0 with
  | [] => some (.normal, A, S)
  | i :: is => match left with
    | 0 => none
    | left + 1 => match firstPure K.P K.G S0 W all A (i :: is) with
      | some (j, o, v) => r (.draw S0 W all left (listed.setIfInBounds j true) (xput A o.dst v) S)
      | none => match r (.one S0 W all left listed i A S) with
        | some (_, A', S') => r (.rest S0 W all left listed is A S A' S')
        | none => none
def restF (r : Rec) (S0 : St) (W : List Nat) (all : Array Oper) (left : Nat) (listed : Array Bool) (is : List Nat) (A : List AV) (S : St) (A' : List AV) (S' : St) : Option Out :=
  match is with
  | [] => some (.normal, A', S')
  | j :: js => match r (.one S0 W all left listed j A S) with
    | some (_, A'', S'') => match AVs.beq A'' A' && Bl.beq S''.ov S'.ov && decide (S''.nxt = S'.nxt) with
      | true => r (.rest S0 W all left listed js A S A' S')
      | false => none
    | none => none
def oneF (K : Cfg) (r : Rec) (S0 : St) (W : List Nat) (all : Array Oper) (left : Nat) (listed : Array Bool) (i : Nat) (A : List AV) (S : St) : Option Out :=
  match all[i]? with
  | some o => match xwanted all A o with
    | true => match stepF K r false o A S with
      | some (_, A', S') => match agreeB S0 W S' with
        | true => r (.draw S0 W all left (listed.setIfInBounds i true) A' S')
        | false => none
      | none => none
    | false => r (.draw S0 W all left (listed.setIfInBounds i true) (xput A o.dst (.tup [])) S)
  | none => none
def XF (K : Cfg) (r : Rec) : Job → Option Out
  | .code c A S => codeF K r c A S
  | .rounds c A S => roundsF r c (r (.code c A S))
  | .call f args S => callF K r f args S
  | .draw S0 W all left listed A S => drawF K r S0 W all left listed A S
  | .rest S0 W all left listed is A S A' S' => restF r S0 W all left listed is A S A' S'
  | .one S0 W all left listed i A S => oneF K r S0 W all left listed i A S
/-- The executor. -/
def X (K : Cfg) (n : Nat) : Job → Option Out := Nat.rec (motive := fun _ => Job → Option Out) (fun _ => none) (fun _ r job => XF K r job) n
end
end Go.Rx
/- The reflective executor, part 14: operations keep the caller's base. -/
namespace Go.Rx
open Go.RowKit
noncomputable section
section
variable {P : Program} {S : St}
def NX.st : NX → St
  | .val _ S => S
  | .unit S => S
  | .enter _ _ S => S
  | .round _ _ _ _ S => S
  | .dfr _ S => S
theorem write_base {i off : Nat} {vs : List AV} {S' : St} (hl : S.write i off vs = some S') : S'.base = S.base := by
  unfold St.write at hl
  (repeat' split at hl) <;> simp at hl
  subst hl; rfl
theorem store_base {t : TypeId} {v u : AV} {S' : St} (hl : xStore P t v u S = some S') : S'.base = S.base := by
  unfold xStore at hl
  split at hl <;> try (simp at hl; done)
  split at hl <;> try (simp at hl; done)
  split at hl <;> try (simp at hl; done)
  exact write_base hl
theorem buildSlice_base {t : TypeId} {len : Nat} {parts : List (Nat × AV)} {u : AV × St} (hl : xBuildSlice P t len parts S = some u) : u.2.base = S.base := by
  unfold xBuildSlice at hl
  (repeat' split at hl) <;> simp at hl
  subst hl; rfl
theorem makeSlice_base {t : TypeId} {l c : AV} {u : AV × St} (hl : xMakeSlice P t l c S = some u) : u.2.base = S.base := by
  unfold xMakeSlice at hl
  (repeat' split at hl) <;> simp at hl
  subst hl; rfl
theorem append_base {t xt : TypeId} {s x : AV} {u : AV × St} (hl : xAppend P t xt s x S = some u) : u.2.base = S.base := by
  unfold xAppend at hl
  split at hl <;> try (simp at hl; done)
  split at hl <;> try (simp at hl; done)
  split at hl <;> try (simp at hl; done)
  split at hl <;> try (simp at hl; done)
  split at hl <;> try (simp at hl; done)
  · split at hl
    · simp at hl; subst hl; rfl
    · split at hl <;> simp at hl
      subst hl; rfl
  · split at hl
    · split at hl <;> simp at hl
      rename_i S' hw
      subst hl
      exact write_base hw
    · split at hl <;> try (simp at hl; done)
      split at hl <;> simp at hl
      subst hl; rfl
  · split at hl <;> try (simp at hl; done)
    split at hl <;> simp at hl
    subst hl; rfl
theorem unsafeStr_base {pt : TypeId} {v n : AV} {u : AV × St} (hl : xUnsafeStr P pt v n S = some u) : u.2.base = S.base := by
  unfold xUnsafeStr at hl
  split at hl <;> try (simp at hl; done)
  · split at hl <;> try (simp at hl; done)
    split at hl <;> try (simp at hl; done)
    split at hl <;> simp at hl
    subst hl; rfl
  · simp at hl; subst hl; rfl
theorem builtin_base {b : Builtin} {ts : Array TypeId} {ty : TypeId} {args : List AV} {u : AV × St} (hl : xBuiltin P b ts ty args S = some u) : u.2.base = S.base := by
  unfold xBuiltin at hl
  split at hl <;> try (simp at hl; done)
  · split at hl <;> simp at hl; subst hl; rfl
  · split at hl <;> simp at hl; subst hl; rfl
  · exact append_base hl
  · split at hl <;> simp at hl; subst hl; rfl
  · exact unsafeStr_base hl
  · exact unsafeStr_base hl
  · (repeat' split at hl) <;> simp at hl; subst hl; rfl
  · (repeat' split at hl) <;> simp at hl; subst hl; rfl
theorem conv_base {src dst : TypeId} {v : AV} {u : AV × St} (hl : xConv P src dst v S = some u) : u.2.base = S.base := by
  unfold xConv at hl
  (repeat' split at hl) <;> simp at hl <;> (subst hl; rfl)
theorem range_base {t : TypeId} {v : AV} {u : AV × St} (hl : xRange P t v S = some u) : u.2.base = S.base := by
  unfold xRange at hl
  split at hl <;> simp at hl
  subst hl; rfl
theorem next_base {v : AV} {u : AV × St} (hl : xNext v S = some u) : u.2.base = S.base := by
  unfold xNext at hl
  (repeat' split at hl) <;> simp at hl <;> (subst hl; rfl)
/-- Handlers keep it too. -/
def EB (E : Ext) : Prop := ∀ (f : FuncId) (args : List AV) (S : St) (n : NX), E f args S = some n → n.st.base = S.base
variable {G : Nat} {E : Ext}
theorem enter_base (hE : EB E) {f : FuncId} {args : List AV} {n : NX} (hl : xEnter P G E f args S = some n) : n.st.base = S.base := by
  unfold xEnter at hl
  split at hl
  · simp at hl; subst hl; rfl
  · split at hl
    · rename_i n' hn
      simp at hl; subst hl
      exact hE _ _ _ _ hn
    · (repeat' split at hl) <;> simp at hl
      subst hl; rfl
theorem call_base (hE : EB E) {A : List AV} {c : Call} {ty : TypeId} {n : NX} (hl : xCall P G E A S c ty = some n) : n.st.base = S.base := by
  unfold xCall at hl
  split at hl <;> try (simp at hl; done)
  split at hl
  · split at hl <;> simp at hl
    rename_i hb
    subst hl
    exact builtin_base hb
  · split at hl <;> try (simp at hl; done)
    · exact enter_base hE hl
    · split at hl <;> try (simp at hl; done)
      split at hl <;> simp at hl
      subst hl; rfl
  · split at hl <;> try (simp at hl; done)
    split at hl <;> try (simp at hl; done)
    exact enter_base hE hl
theorem xop_base (hE : EB E) {A : List AV} {o : Oper} {n : NX} (hl : xop P G E A S o = some n) : n.st.base = S.base := by
  obtain ⟨dst, op, ty, pos, after, guard⟩ := o
  unfold xop at hl
  simp only at hl
  split at hl <;> try (exact call_base hE hl)
  all_goals try (simp at hl; done)
  all_goals (repeat' split at hl)
  all_goals try (simp at hl; done)
  all_goals (simp at hl; subst hl)
  all_goals first | rfl | (exact store_base (by assumption)) | (exact buildSlice_base (by assumption)) | (exact makeSlice_base (by assumption)) | (exact conv_base (by assumption)) | (exact range_base (by assumption)) | (exact next_base (by assumption))
end
end
end Go.Rx
/- Handlers of package reflectlite's functions, of abi.NoEscape. -/
namespace Go.Rx
noncomputable section
open Go.Extern Go.Extern.Rtype

structure ExtNo where
  valueOf : FuncId
  typ : FuncId
  isNil : FuncId
  elem : FuncId
  set : FuncId
  typeOf : FuncId
  same : FuncId

def kindP (P : Program) (t : TypeId) : Option Nat := pureM P (Rtype.kind t)
/-- The parts of an abstract reflectlite.Value that is not the zero one; its type is no stand-in pack's. -/
def valAny (P : Program) : AV → Option (TypeId × Nat × Nat × Nat)
  | .agg [.ptr h t, .ptr i off, .int .u64 (.ofNat (fl + 1))] => if h = P.globals.size then some (t, i, off, fl + 1) else none
  | _ => none
def valParts (P : Program) (v : AV) : Option (TypeId × Nat × Nat × Nat) :=
  match valAny P v with
  | some (t, i, off, fl) => match P.packed t with
    | false => some (t, i, off, fl)
    | true => none
  | none => none
def xExt (P : Program) (G : Nat) (no : ExtNo) : Ext := fun f args S =>
  if f = no.same then match args with
    | [v] => some (.val v S)
    | _ => none
  else if f = no.typeOf then match args with
    | [.iface t _] => match pureM P (ReflectliteType.typeOf #[.iface t .nilIface]) with
      | some y => match cvg G 4 y with
        | some u => some (.val u S)
        | none => none
      | none => none
    | _ => none
  else if f = no.valueOf then match args with
    | [.iface t v] => match kindP P t with
      | some k => some (.val (.agg [.ptr P.globals.size t, .ptr S.nxt 0, .int .u64 (Int.ofNat (k + 128 + 0))]) (S.new (.cells v.cells t none .free)))
      | none => none
    | _ => none
  else if f = no.typ then match args with
    | [v] => match valAny P v with
      | some (t, _, _, _) => match pureM P (ReflectliteType.toType t) with
        | some y => match cvg G 4 y with
          | some u => some (.val u S)
          | none => none
        | none => none
      | none => none
    | _ => none
  else if f = no.isNil then match args with
    | [v] => match valParts P v with
      | some (t, i, off, fl) => if fl % 32 = 22 then match xLoad P t (.ptr i off) S with
        | some (.ptr _ _) => some (.val (.bool false) S)
        | _ => none
        else none
      | none => none
    | _ => none
  else if f = no.elem then match args with
    | [v] => match valParts P v with
      | some (t, i, off, fl) => if fl % 32 = 22 then match xLoad P t (.ptr i off) S, pureM P (Rtype.elem? t) with
        | some (.ptr j o), some (some e) => match kindP P e with
          | some k => some (.val (.agg [.ptr P.globals.size e, .ptr j o, .int .u64 (Int.ofNat (k + 128 + 256))]) S)
          | none => none
        | _, _ => none
        else none
      | none => none
    | _ => none
  else if f = no.set then match args with
    | [v, x] => match valParts P v, valParts P x with
      | some (dst, i, off, fl), some (src, j, o, _) =>
        if fl / 256 % 2 = 1 then match xLoad P src (.ptr j o) S, pureM P (Rtype.directlyAssignable dst src) with
          | some u, some true => match xStore P dst (.ptr i off) u S with
            | some S' => some (.val (.tup []) S')
            | none => none
          | _, _ => none
        else none
      | _, _ => none
    | _ => none
  else none
end
end Go.Rx
