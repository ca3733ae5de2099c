/- The reflective executor, part 9: all operations. -/
import Derived.Test.YtkpdfahdgodajaaGreatDoorRx8
namespace Go.Rx
noncomputable section
open Go.RowKit
section
variable {P : Program} {G B : Nat} {w0 w : World} {ε : Env} {S : St}

def xUnsafeStr (P : Program) (pt : TypeId) (v n : AV) (S : St) : Option (AV × St) :=
  match v, n with
  | .ptr i 0, .int .i64 (.ofNat (m + 1)) =>
    match S.get i, P.underlying pt with
    | some (.cells cs e opn wr), some (.pointer e') =>
      if wr.own && e' = e && P.cellsOf e == 1 && m + 1 ≤ cs.length && m + 1 ≤ 9223372036854775807 then
        match asBytes (cs.take (m + 1)) with
        | some r => some (.str r, S.put i (some (.cells cs e opn .mine)))
        | none => none
      else none
    | _, _ => none
  | _, .int .i64 0 => some (.str [], S)
  | _, _ => none
theorem unsafeStr_means (h : Rel G B w0 ε S w) {pt it ty : TypeId} {v n : AV} {x y : Value} {u : AV × St} (hv : γ ε v = some x) (hy : γ ε n = some y) (hp : ∃ p, x = .pointer p) (hl : xUnsafeStr P pt v n S = some u) :
    MeansV G B w0 ε S ((Builtin.unsafeString_ #[pt, it] ty #[x, y]).run P w) u.1 u.2 := by
  unfold xUnsafeStr at hl
  split at hl <;> try (simp at hl; done)
  · rename_i i m
    split at hl <;> try (simp at hl; done)
    rename_i cs e opn wr e' hget hpt
    split at hl <;> try (simp at hl; done)
    rename_i hc
    simp only [Bool.and_eq_true, decide_eq_true_eq, beq_iff_eq] at hc
    obtain ⟨⟨⟨⟨hwr, rfl⟩, hc1⟩, hc2⟩, hc3⟩ := hc
    split at hl <;> simp at hl
    rename_i r hr
    subst hl
    obtain ⟨b, o, h1, h2, ⟨xs, extra, fr, h3, h4, h5, h6⟩, h7⟩ := h.live _ _ hget
    subst h4
    obtain ⟨lo, hi⟩ := fr
    simp only [γ, h1, Option.map_some, Option.some.injEq] at hv
    simp only [γ, Option.some.injEq] at hy
    subst hv; subst hy
    have hxl := γs_length h3
    obtain ⟨e1, e2, e3⟩ := asBytes_spec hr (γs_take h3 (m + 1))
    have hrl : r.length = m + 1 := by rw [e2]; simp; omega
    have hbytes : (bs r).data.toList = r.map UInt8.ofNat := bs_data r
    have hrun := Lib.run_unsafeString_row (P := P) w pt it ty e' hpt hc1 b (xs ++ extra).length (by simp [World.shape?, h2]) (r.map UInt8.ofNat) (by intro h0; have := congrArg List.length h0; simp [hrl] at this)
      (by simp only [List.length_map, hrl, List.length_append, hxl]; omega) (by simp only [List.length_map, hrl]; omega)
      (fun j c hj => by
        rw [Addr.add_lit, Nat.zero_add]
        simp only [List.getElem?_map, Option.map_eq_some_iff] at hj
        obtain ⟨q, hq, rfl⟩ := hj
        have hq256 : q < 256 := by
          simp only [okb, List.all_eq_true, decide_eq_true_eq] at e1
          exact e1 q (List.mem_of_getElem? hq)
        have hjl : j < m + 1 := by rw [← hrl]; exact (List.getElem?_eq_some_iff.1 hq).1
        have hx : (xs.take (m + 1))[j]? = some (.int .u8 (q : Int)) := by rw [e3]; simp [hq]
        rw [List.getElem?_take, if_pos hjl] at hx
        have hjx : j < xs.length := (List.getElem?_eq_some_iff.1 hx).1
        simp [World.cell?, h2, List.getElem?_append_left hjx, hx, Nat.mod_eq_of_lt hq256])
    simp only [List.length_map, hrl] at hrun
    have hstr : (⟨(r.map UInt8.ofNat).toArray⟩ : ByteArray) = bs r := rfl
    rw [hstr] at hrun
    refine ⟨_, _, ε, hrun, Env.agr_refl _ _, by simp [γ, e1], ?_, by simp [St.put]⟩
    have hfz : ∃ fr', (w.freeze ⟨b, 0, none⟩ (m + 1)).heap[b]? = some (.cells (xs ++ extra).toArray e' fr') := by
      have hlt := (Array.getElem?_eq_some_iff.1 h2).1
      have hbv := (Array.getElem?_eq_some_iff.1 h2).2
      unfold World.freeze
      rw [if_neg (by omega)]
      simp only [Array.getElem?_modify, if_true, h2, Option.map_some]
      exact ⟨_, rfl⟩
    obtain ⟨fr', hfr'⟩ := hfz
    refine h.setBlk hget hwr h1 ⟨?_, ?_, ?_, ?_⟩ ?_ hfr' ⟨xs, extra, fr', h3, rfl, by simp, h6⟩
    · unfold World.freeze; split <;> rfl
    · unfold World.freeze; split <;> rfl
    · unfold World.freeze; split <;> rfl
    · unfold World.freeze; split <;> simp
    · intro k hk
      unfold World.freeze
      split
      · rfl
      · simp only [Array.getElem?_modify]
        rw [if_neg (by omega)]
  · simp at hl; subst hl
    simp only [γ, Option.some.injEq] at hy
    subst hy
    obtain ⟨p, rfl⟩ := hp
    exact MeansV.same h (Lib.run_unsafeString_none w pt it ty p) rfl

def isIntT (P : Program) (t : TypeId) : Bool :=
  match P.underlying t with
  | some (.int _) => true
  | _ => false
def xBuiltin (P : Program) (b : Builtin) (ts : Array TypeId) (ty : TypeId) (args : List AV) (S : St) : Option (AV × St) :=
  match b, ts.toList, args with
  | .len, [t], [v] => match xLen P t v with
    | some n => some (.int .i64 n, S)
    | none => none
  | .cap, [t], [v] => match xCap P t v with
    | some n => some (.int .i64 n, S)
    | none => none
  | .append, [t, xt], [s, x] => xAppend P t xt s x S
  | .unsafeSliceData, _, [v] => match xSliceData v S with
    | some u => some (u, S)
    | none => none
  | .unsafeString, [pt, _], [.ptr i off, n] => xUnsafeStr P pt (.ptr i off) n S
  | .unsafeString, [pt, _], [.nilptr, n] => xUnsafeStr P pt .nilptr n S
  | .max, _, _ => match scl args with
    | some xs => match pureM P (Builtin.max_ ts ty xs.toArray) with
      | some v => match cv 2 v with
        | some u => some (u, S)
        | none => none
      | none => none
    | none => none
  | .min, _, _ => match scl args with
    | some xs => match pureM P (Builtin.min_ ts ty xs.toArray) with
      | some v => match cv 2 v with
        | some u => some (u, S)
        | none => none
      | none => none
    | none => none
  | _, _, _ => none
theorem arr_of_list {α : Type} {a : Array α} {l : List α} (h : a.toList = l) : a = l.toArray := by rw [← h]
theorem builtin_means (h : Rel G B w0 ε S w) {b : Builtin} {ts : Array TypeId} {ty : TypeId} {cs : Array Bool} {args : List AV} {xs : List Value} {u : AV × St} (hx : γs ε args = some xs) (hl : xBuiltin P b ts ty args S = some u) :
    Means G B w0 ε S ((builtin b ts ty cs xs.toArray).run P w) (.val u.1 u.2) := by
  unfold xBuiltin at hl
  split at hl <;> try (simp at hl; done)
  · rename_i t v hts
    have hts := arr_of_list hts
    split at hl <;> simp at hl
    rename_i n hn
    subst hl; subst hts
    obtain ⟨x, ys, h1, h2, rfl⟩ := γs_cons.1 hx
    rw [γs_nil] at h2; subst h2
    exact Means.of_v (MeansV.same h (len_run h1 hn) rfl)
  · rename_i t v hts
    have hts := arr_of_list hts
    split at hl <;> simp at hl
    rename_i n hn
    subst hl; subst hts
    obtain ⟨x, ys, h1, h2, rfl⟩ := γs_cons.1 hx
    rw [γs_nil] at h2; subst h2
    exact Means.of_v (MeansV.same h (cap_run h1 hn) rfl)
  · rename_i t xt s x hts
    have hts := arr_of_list hts
    subst hts
    obtain ⟨p, ys, h1, h2, rfl⟩ := γs_cons.1 hx
    obtain ⟨q, ys, h3, h4, rfl⟩ := γs_cons.1 h2
    rw [γs_nil] at h4; subst h4
    exact Means.of_v (append_means h h1 h3 hl)
  · rename_i v
    split at hl <;> simp at hl
    rename_i u' hu
    subst hl
    obtain ⟨x, ys, h1, h2, rfl⟩ := γs_cons.1 hx
    rw [γs_nil] at h2; subst h2
    exact Means.of_v (sliceData_means h h1 hu)
  · rename_i pt it i off n hts
    have hts := arr_of_list hts
    subst hts
    obtain ⟨p, ys, h1, h2, rfl⟩ := γs_cons.1 hx
    obtain ⟨q, ys, h3, h4, rfl⟩ := γs_cons.1 h2
    rw [γs_nil] at h4; subst h4
    have hp : ∃ p', p = .pointer p' := by
      simp only [γ, Option.map_eq_some_iff] at h1
      obtain ⟨b', _, rfl⟩ := h1
      exact ⟨_, rfl⟩
    exact Means.of_v (unsafeStr_means h h1 h3 hp hl)
  · rename_i pt it n hts
    have hts := arr_of_list hts
    subst hts
    obtain ⟨p, ys, h1, h2, rfl⟩ := γs_cons.1 hx
    obtain ⟨q, ys, h3, h4, rfl⟩ := γs_cons.1 h2
    rw [γs_nil] at h4; subst h4
    have hp : ∃ p', p = .pointer p' := by
      simp only [γ, Option.some.injEq] at h1
      exact ⟨none, h1.symm⟩
    exact Means.of_v (unsafeStr_means h h1 h3 hp hl)
  · split at hl <;> try (simp at hl; done)
    rename_i ys hys
    have := scl_γ (ε := ε) hys
    rw [hx] at this; simp at this; subst this
    split at hl <;> try (simp at hl; done)
    rename_i v hv
    split at hl <;> simp at hl
    rename_i u' hu
    subst hl
    exact Means.of_v (MeansV.same h (pureM_run hv w) (cv_sound ε 2 v u' hu))
  · split at hl <;> try (simp at hl; done)
    rename_i ys hys
    have := scl_γ (ε := ε) hys
    rw [hx] at this; simp at this; subst this
    split at hl <;> try (simp at hl; done)
    rename_i v hv
    split at hl <;> simp at hl
    rename_i u' hu
    subst hl
    exact Means.of_v (MeansV.same h (pureM_run hv w) (cv_sound ε 2 v u' hu))

/-! ### Conversions -/
def xConv (P : Program) (src dst : TypeId) (v : AV) (S : St) : Option (AV × St) :=
  match sc v with
  | some x => match pureM P (convert src dst x) with
    | some y => match cv 2 y with
      | some u => some (u, S)
      | none => none
    | none => none
  | none =>
    match P.underlying src, P.underlying dst, v with
    | some .string, some .string, .str s => some (.str s, S)
    | some .string, some (.slice e), .str s => match P.underlying e with
      | some (.int .u8) => some (xToBytes e s S)
      | _ => none
    | some (.slice e), some .string, v => match P.underlying e with
      | some (.int .u8) => match xOfBytes v S with
        | some u => some (u, S)
        | none => none
      | _ => none
    | some (.pointer _), some .unsafePointer, .nilptr => some (.nilptr, S)
    | some .unsafePointer, some (.pointer _), .nilptr => some (.nilptr, S)
    | some (.pointer t), some .unsafePointer, .ptr i off => match S.get i, sizeT P t with
      | some (.cells cs _ _ _), some (_ + 1) => if off < cs.length then some (.ptr i off, S) else none
      | _, _ => none
    | some .unsafePointer, some (.pointer u), .ptr i off => match S.get i, sizeT P u with
      | some (.cells cs e none _), some (_ + 1) =>
        if liesAt P P.depth e (cs.length / P.cellsOf e) off u 1 then some (.ptr i off, S) else none
      | _, _ => none
    | _, _, _ => none
theorem viewAt_cells {b : Nat} {c : Array Value} {e : TypeId} {fr : Nat × Nat} (hb : w.heap[b]? = some (.cells c e fr)) : (viewAt b).run P w = .ok none w := by
  simp [viewAt, World.shape?, hb]
theorem cellsIn_cells {b : Nat} {c : Array Value} {e : TypeId} {fr : Nat × Nat} (hb : w.heap[b]? = some (.cells c e fr)) : (cellsIn b).run P w = .ok (some c.size) w := by
  simp [cellsIn, World.shape?, hb]
theorem conv_means (h : Rel G B w0 ε S w) {src dst : TypeId} {v : AV} {x : Value} {u : AV × St} (hv : γ ε v = some x) (hl : xConv P src dst v S = some u) :
    MeansV G B w0 ε S ((convert src dst x).run P w) u.1 u.2 := by
  unfold xConv at hl
  split at hl
  · rename_i x' hx'
    have e := sc_γ hx' hv
    subst e
    split at hl <;> try (simp at hl; done)
    rename_i y hy
    split at hl <;> simp at hl
    rename_i u' hu
    subst hl
    exact MeansV.same h (pureM_run hy w) (cv_sound ε 2 y u' hu)
  · split at hl <;> try (simp at hl; done)
    · rename_i s h1 h2 _
      simp at hl; subst hl
      have hv' := hv
      simp only [γ] at hv
      split at hv <;> simp at hv
      subst hv
      exact MeansV.same h (by simp [convert, run_underlying h1, run_underlying h2]) hv'
    · rename_i e s h1 h2 _
      split at hl <;> simp at hl
      rename_i h3
      subst hl
      simp only [γ] at hv
      split at hv <;> simp at hv
      rename_i hs
      subst hv
      exact toBytes_means h h1 h2 h3 hs
    · rename_i e h1 h2 _
      split at hl <;> try (simp at hl; done)
      rename_i h3
      split at hl <;> simp at hl
      rename_i u' hu
      subst hl
      exact ofBytes_means h h1 h2 h3 hv hu
    · rename_i t h1 h2 _
      simp at hl; subst hl
      simp only [γ, Option.some.injEq] at hv
      subst hv
      exact MeansV.same h (by simp [convert, run_underlying h1, run_underlying h2, Conv.unsafePointer]) rfl
    · rename_i t h1 h2 _
      simp at hl; subst hl
      simp only [γ, Option.some.injEq] at hv
      subst hv
      exact MeansV.same h (by simp [convert, run_underlying h1, run_underlying h2, Conv.unsafePointer]) rfl
    · rename_i t i off h1 h2 _
      split at hl <;> try (simp at hl; done)
      rename_i cs e opn wr n hget hn
      split at hl <;> simp at hl
      rename_i hoff
      subst hl
      obtain ⟨b, o, h3, h4, ⟨xs, extra, fr, h5, h6, _⟩, _⟩ := h.live _ _ hget
      subst h6
      have hxl := γs_length h5
      have hv' := hv
      simp only [γ, h3, Option.map_some, Option.some.injEq] at hv
      subst hv
      refine MeansV.same h ?_ hv'
      have hlt : ¬ ((xs ++ extra).length ≤ off) := by simp; omega
      simp [convert, run_underlying h1, run_underlying h2, Conv.unsafePointer, Conv.seenAt, viewAt_cells h4, cellsIn_cells h4, run_sizeT hn]
      simp at hlt
      omega
    · rename_i t i off h1 h2 _
      split at hl <;> try (simp at hl; done)
      rename_i cs e wr n hget hn
      split at hl <;> simp at hl
      rename_i hlies
      subst hl
      obtain ⟨b, o, h3, h4, ⟨xs, extra, fr, h5, h6, _, h7⟩, _⟩ := h.live _ _ hget
      subst h6
      have hex : extra = [] := h7
      subst hex
      have hxl := γs_length h5
      have hv' := hv
      simp only [γ, h3, Option.map_some, Option.some.injEq] at hv
      subst hv
      refine MeansV.same h ?_ hv'
      have hsh : w.shape? b = some (e, xs.length) := by simp [World.shape?, h4]
      rw [← hxl] at hlies
      simp [convert, run_underlying h1, run_underlying h2, Conv.unsafePointer, Conv.seenAt, viewAt_cells h4, run_sizeT hn, variablesAt, hsh, hlies]
end
end
end Go.Rx
