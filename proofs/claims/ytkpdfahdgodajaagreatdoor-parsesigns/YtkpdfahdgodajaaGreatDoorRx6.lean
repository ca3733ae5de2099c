/- The reflective executor, part 6: composite values, new slices, conversions between strings and bytes, builtins. -/
import Derived.Test.YtkpdfahdgodajaaGreatDoorRx5
namespace Go.Rx
open Go.RowKit
section
variable {P : Program} {G B : Nat} {w0 w : World} {ε : Env} {S : St}

/-! ### Composite values -/
def setAt : List AV → Nat → List AV → List AV
  | cs, _, [] => cs
  | cs, off, v :: vs => setAt (cs.set off v) (off + 1) vs
def xFill (place : Nat → Option (Nat × Nat)) (cells : List AV) : List (Nat × AV) → Option (List AV)
  | [] => some cells
  | (i, v) :: rest =>
    match place i with
    | none => none
    | some (off, size) => if v.cells.length ≠ size || off + v.cells.length > cells.length then none else xFill place (setAt cells off v.cells) rest
def γp (ε : Env) : List (Nat × AV) → Option (List (Nat × Value))
  | [] => some []
  | (i, v) :: l => (γ ε v).bind fun x => (γp ε l).map fun xs => (i, x) :: xs
theorem setAt_spec : ∀ (vs : List AV) (xs : List Value) (cs : List AV) (X : Array Value) (off k : Nat), γs ε vs = some xs → γs ε cs = some X.toList →
    γs ε (setAt cs (off + k) vs) = some ((xs.zipIdx k).foldl (fun cs (c, j) => cs.setIfInBounds (off + j) c) X).toList
  | [], xs, cs, X, off, k, h, h' => by rw [γs_nil] at h; subst h; simpa [setAt] using h'
  | v :: vs, xs, cs, X, off, k, h, h' => by
    obtain ⟨x, ys, h1, h2, rfl⟩ := γs_cons.1 h
    simp only [setAt, List.zipIdx_cons, List.foldl_cons]
    rw [show off + k + 1 = off + (k + 1) by omega]
    refine setAt_spec vs ys _ _ off (k + 1) h2 ?_
    rw [Array.toList_setIfInBounds]
    exact γs_set h' _ h1
theorem setAt_length : ∀ (vs cs : List AV) (off : Nat), (setAt cs off vs).length = cs.length
  | [], cs, off => rfl
  | v :: vs, cs, off => by simp [setAt, setAt_length vs]
theorem xFill_sound {place : Nat → Option (Nat × Nat)} : ∀ (ps : List (Nat × AV)) (xs : List (Nat × Value)) (cs : List AV) (X : Array Value) (r : List AV), γp ε ps = some xs → γs ε cs = some X.toList →
    xFill place cs ps = some r → ∃ Y, Instr.fill place X xs = some Y ∧ γs ε r = some Y.toList
  | [], xs, cs, X, r, h, h', hf => by
    simp [γp] at h; subst h
    simp [xFill] at hf; subst hf
    exact ⟨X, rfl, h'⟩
  | (i, v) :: ps, xs, cs, X, r, h, h', hf => by
    simp only [γp, Option.bind_eq_some_iff, Option.map_eq_some_iff] at h
    obtain ⟨x, h1, ys, h2, rfl⟩ := h
    simp only [xFill] at hf
    cases hp : place i with
    | none => simp [hp] at hf
    | some q =>
      obtain ⟨off, size⟩ := q
      simp only [hp] at hf
      split at hf <;> try (simp at hf; done)
      rename_i hc
      have hcells := γ_cells h1
      have e1 := γs_length hcells
      have e2 := γs_length h'
      simp only [Array.length_toList] at e1 e2
      have hs := setAt_spec v.cells x.cells.toList cs X off 0 hcells h'
      rw [Nat.add_zero] at hs
      have heq : (x.cells.toList.zipIdx).foldl (fun cs (c, j) => cs.setIfInBounds (off + j) c) X = x.cells.zipIdx.foldl (fun cs (c, j) => cs.setIfInBounds (off + j) c) X := by
        rw [← Array.foldl_toList]; simp
      rw [heq] at hs
      obtain ⟨Y, h3, h4⟩ := xFill_sound ps ys _ _ r h2 hs hf
      refine ⟨Y, ?_, h4⟩
      simp only [Instr.fill, hp]
      rw [e1, e2]
      rw [if_neg hc]
      exact h3

def placesT (P : Program) (t : TypeId) : Option (List (Nat × Nat)) :=
  match P.underlying t with
  | some (.struct fields) => fields.toList.mapM fun f => (P.info? f.type).map fun i => (f.offset, i.size)
  | _ => none
def xBuild (P : Program) (t : TypeId) (parts : List (Nat × AV)) : Option AV :=
  match zeroOf P t, P.underlying t with
  | some z, some (.struct _) => match placesT P t with
    | some places => (xFill (fun i => places[i]?) z.cells parts).map .agg
    | none => none
  | some z, some (.array _ e) => match sizeT P e with
    | some n => (xFill (fun i => some (i * n, n)) z.cells parts).map .agg
    | none => none
  | _, _ => none
theorem zeroOf_spec {t : TypeId} {z : AV} (h : zeroOf P t = some z) : ∃ i x, P.info? t = some i ∧ i.zero = some x ∧ ∀ ε, γ ε z = some x := by
  unfold zeroOf at h
  split at h <;> try (simp at h; done)
  rename_i i hi
  split at h <;> try (simp at h; done)
  rename_i x hx
  exact ⟨i, x, hi, hx, fun ε => cv_sound ε 8 x z h⟩
theorem build_means (h : Rel G B w0 ε S w) {t : TypeId} {parts : List (Nat × AV)} {xs : Array (Nat × Value)} {u : AV} (hp : γp ε parts = some xs.toList) (hl : xBuild P t parts = some u) :
    MeansV G B w0 ε S ((Instr.build t xs).run P w) u S := by
  unfold xBuild at hl
  split at hl <;> try (simp at hl; done)
  · rename_i z fs hz ht
    obtain ⟨i, x, h1, h2, h3⟩ := zeroOf_spec hz
    cases hpl : placesT P t with
    | none => simp [hpl] at hl
    | some places =>
      simp only [hpl, Option.map_eq_some_iff] at hl
      obtain ⟨r, hr, rfl⟩ := hl
      obtain ⟨Y, h4, h5⟩ := xFill_sound parts xs.toList _ x.cells r hp (γ_cells (h3 ε)) hr
      have hb : P.built t xs.toList = some Y := by
        unfold placesT at hpl
        simp only [ht] at hpl
        unfold Program.built
        simp only [h1, ht, h2, hpl]
        rw [← h4]
        congr 1
        funext i
        simp
      exact MeansV.same h (run_build w t xs Y hb) (by simp [γ, h5])
  · rename_i z n0 e hz ht
    obtain ⟨i, x, h1, h2, h3⟩ := zeroOf_spec hz
    split at hl <;> try (simp at hl; done)
    rename_i n hn
    simp only [Option.map_eq_some_iff] at hl
    obtain ⟨r, hr, rfl⟩ := hl
    obtain ⟨Y, h4, h5⟩ := xFill_sound parts xs.toList _ x.cells r hp (γ_cells (h3 ε)) hr
    have hb : P.built t xs.toList = some Y := by
      unfold sizeT at hn
      cases hie : P.info? e with
      | none => simp [hie] at hn
      | some ie =>
        simp [hie] at hn
        unfold Program.built
        simp only [h1, ht, h2, hie, hn]
        exact h4
    exact MeansV.same h (run_build w t xs Y hb) (by simp [γ, h5])

/-- So many cells, again and again those of one element. -/
def many (zs : List AV) (n : Nat) : List AV := (List.range n).map fun i => zs.getD (i % zs.length) (.tup [])
theorem many_spec {zs : List AV} {Z : Array Value} (h : γs ε zs = some Z.toList) (n : Nat) (h0 : n = 0 ∨ 0 < zs.length) :
    γs ε (many zs n) = some ((Array.range n).map (fun i => Z[i % Z.size]!)).toList := by
  have hl := γs_length h
  simp only [Array.length_toList] at hl
  simp only [many, Array.toList_map, Array.toList_range]
  have key : ∀ (l : List Nat), (l = [] ∨ 0 < zs.length) → γs ε (l.map fun i => zs.getD (i % zs.length) (.tup [])) = some (l.map (fun i => Z[i % Z.size]!)) := by
    intro l hl0
    induction l with
    | nil => rfl
    | cons a l ih =>
      have hpos : 0 < zs.length := by rcases hl0 with h | h; · cases h
                                      · exact h
      have hlt : a % zs.length < zs.length := Nat.mod_lt _ hpos
      have hg : zs[a % zs.length]? = some zs[a % zs.length] := List.getElem?_eq_getElem hlt
      obtain ⟨x, h1, h2⟩ := γs_get h hg
      refine γs_cons.2 ⟨x, _, ?_, ih (Or.inr hpos), ?_⟩
      · simpa [List.getD, hg] using h2
      · simp only [List.map_cons, List.cons.injEq, and_true]
        rw [hl]
        have h1' : Z[a % zs.length]? = some x := by simpa using h1
        rw [getElem!_def, h1']
  exact key _ (by rcases h0 with h0 | h0; · left; simp [h0]
                  · exact Or.inr h0)
def xBuildSlice (P : Program) (t : TypeId) (len : Nat) (parts : List (Nat × AV)) (S : St) : Option (AV × St) :=
  match P.underlying t with
  | some (.slice e) =>
    match sizeT P e, zeroOf P e with
    | some n, some z =>
      if len * n ≤ 16777216 && (decide (0 < z.cells.length) && decide (0 < len * n)) then
        match xFill (fun i => some (i * n, n)) (many z.cells (len * n)) parts with
        | some cs => some (.slc S.nxt 0 len (.ex len), S.new (.cells cs e none .free))
        | none => none
      else none
    | _, _ => none
  | _ => none
theorem buildSlice_means (h : Rel G B w0 ε S w) {t : TypeId} {len : Nat} {parts : List (Nat × AV)} {xs : Array (Nat × Value)} {u : AV × St} (hp : γp ε parts = some xs.toList) (hl : xBuildSlice P t len parts S = some u) :
    MeansV G B w0 ε S ((Instr.buildSlice t len xs).run P w) u.1 u.2 := by
  unfold xBuildSlice at hl
  split at hl <;> try (simp at hl; done)
  rename_i e ht
  split at hl <;> try (simp at hl; done)
  rename_i n z hn hz
  split at hl <;> try (simp at hl; done)
  rename_i hc
  simp only [Bool.and_eq_true, decide_eq_true_eq] at hc
  obtain ⟨hc1, hc2, hc3⟩ := hc
  split at hl <;> try (simp at hl; done)
  rename_i cs hcs
  simp at hl; subst hl
  obtain ⟨x, hx, hv⟩ := run_zeroOf (w := w) hz
  have hm := many_spec (γ_cells (hv ε)) (len * n) (Or.inr hc2)
  obtain ⟨Y, h4, h5⟩ := xFill_sound parts xs.toList _ _ cs hp hm hcs
  obtain ⟨ε', h6, h7, h8⟩ := h.newCells h5 e
  refine ⟨.slice (some ⟨w.heap.size, 0, none⟩) len len, _, ε', ?_, h6, by simp [γ, h7, capOf], h8, by simp [St.nxt_new]⟩
  have hne : ¬ len * n = 0 := by omega
  have hle : ¬ (16777216 < len * n) := by omega
  simp [Instr.buildSlice, run_underlying ht, run_sizeT hn, hle, hne, hx, h4, newRow]

def xMakeSlice (P : Program) (t : TypeId) (l c : AV) (S : St) : Option (AV × St) :=
  match P.underlying t, l, c with
  | some (.slice e), .int _ len, .int _ cap =>
    match P.info? e, zeroOf P e with
    | some i, some z =>
      if 0 ≤ len && len ≤ cap && cap ≤ 9223372036854775807 && (i.bytes : Int) * cap ≤ 281474976710656 && (decide (0 < z.cells.length) && decide (0 < cap.toNat * i.size)) then
        some (.slc S.nxt 0 len.toNat (.ex cap.toNat), S.new (.cells (many z.cells (cap.toNat * i.size)) e none .free))
      else none
    | _, _ => none
  | _, _, _ => none
theorem makeSlice_means (h : Rel G B w0 ε S w) {t : TypeId} {l c : AV} {x y : Value} {u : AV × St} (hx : γ ε l = some x) (hy : γ ε c = some y) (hl : xMakeSlice P t l c S = some u) :
    MeansV G B w0 ε S ((Instr.makeSlice t x y).run P w) u.1 u.2 := by
  unfold xMakeSlice at hl
  split at hl <;> try (simp at hl; done)
  rename_i e k1 len k2 cap ht
  split at hl <;> try (simp at hl; done)
  rename_i i z hi hz
  split at hl <;> try (simp at hl; done)
  rename_i hc
  simp only [Bool.and_eq_true, decide_eq_true_eq] at hc
  obtain ⟨⟨⟨⟨hc1, hc2⟩, hc3⟩, hc4⟩, hc5, hc6⟩ := hc
  simp at hl; subst hl
  simp only [γ, Option.some.injEq] at hx hy
  subst hx; subst hy
  obtain ⟨zv, hzx, hv⟩ := run_zeroOf (w := w) hz
  have hm := many_spec (γ_cells (hv ε)) (cap.toNat * i.size) (Or.inr hc5)
  obtain ⟨ε', h6, h7, h8⟩ := h.newCells hm e
  refine ⟨.slice (some ⟨w.heap.size, 0, none⟩) len.toNat cap.toNat, _, ε', ?_, h6, by simp [γ, h7, capOf], h8, by simp [St.nxt_new]⟩
  have wl : IntKind.i64.wrap len = len := by simp [IntKind.wrap, IntKind.bits, IntKind.signed]; omega
  have wc : IntKind.i64.wrap cap = cap := by simp [IntKind.wrap, IntKind.bits, IntKind.signed]; omega
  have hne : ¬ cap.toNat * i.size = 0 := by omega
  have n1 : ¬ (cap < 0) := by omega
  have n2 : ¬ (len < 0) := by omega
  have n3 : ¬ (cap < len) := by omega
  have n4 : ¬ (281474976710656 < (i.bytes : Int) * cap) := by omega
  simp [Instr.makeSlice, run_underlying ht, asInt, asIntOf, typeInfo, hi, wl, wc, n1, n2, n3, n4, sizeOf, hne, hzx, newRow]

/-! ### The bytes of a string -/
def byteAVs (s : List Nat) : List AV := s.map fun (c : Nat) => .int .u8 (c : Int)
theorem byteAVs_spec {s : List Nat} (hs : okb s = true) : γs ε (byteAVs s) = some ((bs s).data.map fun b => Value.int .u8 b.toNat).toList := by
  induction s with
  | nil => simp [byteAVs, γs, bs]
  | cons a s ih =>
    simp only [okb, List.all_cons, Bool.and_eq_true, decide_eq_true_eq] at hs
    have := ih hs.2
    refine γs_cons.2 ⟨.int .u8 a, _, by simp [γ], this, ?_⟩
    simp [bs, Nat.mod_eq_of_lt hs.1]
def xToBytes (e : TypeId) (s : List Nat) (S : St) : AV × St := (.slc S.nxt 0 s.length (.blk 0), S.new (.cells (byteAVs s) e (some 1) .mine))
theorem grownCap_ge' (w : World) (need old : Nat) (e : TypeId) : need ≤ grownCap w need old e := grownCap_ge w need old e
theorem toBytes_means (h : Rel G B w0 ε S w) {src dst e : TypeId} (h1 : P.underlying src = some .string) (h2 : P.underlying dst = some (.slice e)) (h3 : P.underlying e = some (.int .u8)) {s : List Nat} (hs : okb s = true) :
    MeansV G B w0 ε S ((convert src dst (.string (bs s))).run P w) (xToBytes e s S).1 (xToBytes e s S).2 := by
  have hr := run_bytes_of_string (P := P) w src dst e (bs s) h1 h2 h3
  generalize hC : grownCap w (bs s).size 0 e = C at hr
  have hge : s.length ≤ C := by rw [← hC, ← bs_size]; exact grownCap_ge' _ _ _ _
  have hag := Env.agr_set ε S.nxt w.heap.size C
  refine ⟨_, _, ε.set S.nxt w.heap.size C, hr, hag, ?_, h.drew.alloc _ _ C ?_, by simp [xToBytes, St.nxt_new]⟩
  · simp [xToBytes, γ, Env.set, capOf, bs_size]
  · intro ε' ha hk
    refine ⟨((bs s).data.map fun b => Value.int .u8 b.toNat).toList, List.replicate (C - s.length) (.int .u8 0), ((bytesRow (bs s) C).size, (bytesRow (bs s) C).size + 1), byteAVs_spec hs, ?_, by simp, ?_⟩
    · congr 1
      simp [bytesRow, bs_size]
    · simp only [hk, List.length_append, List.length_replicate, Array.length_toList, Array.size_map, Nat.mul_one]
      have : (bs s).data.size = s.length := bs_size s
      omega
def asBytes : List AV → Option (List Nat)
  | [] => some []
  | .int .u8 n :: l => if 0 ≤ n && n < 256 then match asBytes l with
    | some r => some (n.toNat :: r)
    | none => none
    else none
  | _ => none
theorem asBytes_spec : ∀ {l : List AV} {r : List Nat} {xs : List Value}, asBytes l = some r → γs ε l = some xs → okb r = true ∧ r.length = l.length ∧ xs = (r.map fun (n : Nat) => Value.int .u8 (n : Int))
  | [], r, xs, h, h' => by
    simp [asBytes] at h; subst h
    rw [γs_nil] at h'; subst h'
    exact ⟨rfl, rfl, rfl⟩
  | v :: l, r, xs, h, h' => by
    obtain ⟨x, ys, h1, h2, rfl⟩ := γs_cons.1 h'
    cases v <;> try (simp [asBytes] at h; done)
    case int k n =>
      cases k <;> try (simp [asBytes] at h; done)
      simp only [asBytes] at h
      split at h <;> try (simp at h; done)
      rename_i hc
      simp only [Bool.and_eq_true, decide_eq_true_eq] at hc
      split at h <;> try (simp at h; done)
      rename_i r' hr'
      simp at h; subst h
      obtain ⟨e1, e2, e3⟩ := asBytes_spec hr' h2
      simp only [γ, Option.some.injEq] at h1
      subst h1
      refine ⟨?_, by simp [e2], ?_⟩
      · simp only [okb, List.all_cons, Bool.and_eq_true, decide_eq_true_eq] at e1 ⊢
        exact ⟨by omega, e1⟩
      · have hn : ((n.toNat : Nat) : Int) = n := by omega
        simp only [List.map_cons, e3, hn]
def xOfBytes (v : AV) (S : St) : Option AV :=
  match v with
  | .nilslc => some (.str [])
  | .slc i off len _ => match S.read i off len with
    | some vs => (asBytes vs).map .str
    | none => none
  | _ => none
theorem foldl_push (l : List Nat) (r : ByteArray) : (l.map fun (n : Nat) => (n : Int)).foldl (fun r n => r.push (UInt8.ofNat n.toNat)) r = r ++ bs l := by
  induction l generalizing r with
  | nil =>
    have : (r ++ bs []).data = r.data := by simp [bs]
    cases h : r ++ bs []
    cases r
    simp_all
  | cons a l ih =>
    simp only [List.map_cons, List.foldl_cons, ih]
    have : (r.push (UInt8.ofNat (a : Int).toNat) ++ bs l).data = (r ++ bs (a :: l)).data := by
      apply Array.ext'
      simp [bs]
    exact ByteArray.ext this
theorem ofBytes_means (h : Rel G B w0 ε S w) {src dst e : TypeId} (h1 : P.underlying src = some (.slice e)) (h2 : P.underlying dst = some .string) (h3 : P.underlying e = some (.int .u8)) {v u : AV} {x : Value} (hv : γ ε v = some x)
    (hl : xOfBytes v S = some u) : MeansV G B w0 ε S ((convert src dst x).run P w) u S := by
  cases v <;> try (simp [xOfBytes] at hl; done)
  case nilslc =>
    simp [xOfBytes] at hl; subst hl
    simp only [γ, Option.some.injEq] at hv
    subst hv
    refine MeansV.same h (x := .string .empty) ?_ ?_
    · simp [convert, run_underlying h1, run_underlying h2, run_underlying h3, Conv.bytesToString]
    · rfl
  case slc i off len c =>
    simp only [xOfBytes] at hl
    split at hl <;> try (simp at hl; done)
    rename_i vs hr
    simp only [Option.map_eq_some_iff] at hl
    obtain ⟨r, hr', rfl⟩ := hl
    simp only [γ, Option.map_eq_some_iff] at hv
    obtain ⟨b, hb, rfl⟩ := hv
    obtain ⟨b', xs, h4, h5, h6, h7⟩ := h.read hr
    rw [hb] at h4; simp at h4; subst h4
    obtain ⟨e1, e2, e3⟩ := asBytes_spec hr' h5
    have hc := run_loadCells_list (P := P) w ⟨b, off, none⟩ xs (fun j v hj => by rw [Addr.add_lit]; exact h7 j v hj)
    rw [h6, e3] at hc
    have hb2 := run_bytesToString (P := P) w ⟨b, off, none⟩ len (capOf ε i c) (r.map fun (n : Nat) => (n : Int)) (by rw [hc]; simp)
    refine MeansV.same h (x := .string (bs r)) ?_ (by simp [γ, e1])
    rw [foldl_push] at hb2
    have e4 : ByteArray.empty ++ bs r = bs r := by
      have : (ByteArray.empty ++ bs r).data = (bs r).data := by simp
      cases h1 : ByteArray.empty ++ bs r
      cases h2 : bs r
      simp_all
    rw [e4] at hb2
    simp [convert, run_underlying h1, run_underlying h2, run_underlying h3, hb2]
end
end Go.Rx
