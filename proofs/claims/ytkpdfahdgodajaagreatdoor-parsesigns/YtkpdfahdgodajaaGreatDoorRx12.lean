/- The reflective executor, part 12: operations that yield their value in whatever world; equality of abstract values and worlds. -/
import Derived.Test.YtkpdfahdgodajaaGreatDoorRx11
namespace Go.Rx
noncomputable section
open Go.RowKit
section
variable {P : Program} {G B : Nat} {w0 w : World} {ε : Env} {S : St}

/-- A value in whatever world. -/
def PV (P : Program) (ε : Env) (s : Sem Value) (u : AV) : Prop := ∃ y, (∀ w, s.run P w = .ok y w) ∧ γ ε u = some y

theorem field_pv {t : TypeId} {v u : AV} {x : Value} {f : Nat} (hv : γ ε v = some x) (hl : xField P t v f = some u) : PV P ε (Instr.field t x f) u := by
  unfold xField at hl
  split at hl <;> try (simp at hl; done)
  rename_i cs fd hfd
  obtain ⟨fs, h1, h2⟩ := fieldT_spec hfd
  simp only [γ, Option.map_eq_some_iff] at hv
  obtain ⟨xs, hxs, rfl⟩ := hv
  obtain ⟨y, h3, h4⟩ := part_means (P := P) (xs := xs.toArray) (by simpa using hxs) hl
  exact ⟨y, fun w => by simp [Instr.field, run_underlying h1, h2, asAgg, h3], h4⟩
theorem fieldAddr_pv {t : TypeId} {v u : AV} {x : Value} {f : Nat} (hv : γ ε v = some x) (hl : xFieldAddr P t v f = some u) : PV P ε (Instr.fieldAt t x f) u := by
  unfold xFieldAddr at hl
  split at hl <;> try (simp at hl; done)
  rename_i i off fd hfd
  split at hl <;> try (simp at hl; done)
  rename_i n hn
  simp at hl; subst hl
  obtain ⟨fs, h1, h2⟩ := fieldT_spec hfd
  simp only [γ, Option.map_eq_some_iff] at hv
  obtain ⟨b, hb, rfl⟩ := hv
  refine ⟨.pointer (some ⟨b, off + fd.offset, none⟩), fun w => ?_, (by simp [γ, hb])⟩
  simp [Instr.fieldAt, run_underlying h1, h2, Instr.sureAddr, fieldPlace, run_sizeT hn, Addr.add_lit]
theorem indexAddr_pv {t : TypeId} {v ix u : AV} {x y : Value} (hv : γ ε v = some x) (hy : γ ε ix = some y) (hl : xIndexAddr P t v ix = some u) : PV P ε (Instr.indexAt t x y) u := by
  unfold xIndexAddr at hl
  split at hl <;> try (simp at hl; done)
  rename_i k j
  simp only [γ, Option.some.injEq] at hy
  subst hy
  split at hl <;> try (simp at hl; done)
  · rename_i e i off len c ht
    split at hl <;> try (simp at hl; done)
    rename_i n hn
    split at hl <;> try (simp at hl; done)
    rename_i hj
    simp at hl; subst hl
    simp only [γ, Option.map_eq_some_iff] at hv
    obtain ⟨b, hb, rfl⟩ := hv
    refine ⟨.pointer (some ⟨b, off + j.toNat * n, none⟩), fun w => ?_, (by simp [γ, hb])⟩
    simp [Instr.indexAt, asIntOf, run_underlying ht, hj, run_sizeT hn, Addr.add_lit]
  · rename_i len e i off ht
    split at hl <;> try (simp at hl; done)
    rename_i n hn
    split at hl <;> try (simp at hl; done)
    rename_i hj
    simp at hl; subst hl
    simp only [γ, Option.map_eq_some_iff] at hv
    obtain ⟨b, hb, rfl⟩ := hv
    refine ⟨.pointer (some ⟨b, off + j.toNat * n, none⟩), fun w => ?_, (by simp [γ, hb])⟩
    simp [Instr.indexAt, asIntOf, run_underlying ht, Instr.sureAddr, hj, run_sizeT hn, Addr.add_lit]
/-- In a world of no blocks everything that asks none is as in any. -/
theorem index_pv {t : TypeId} {v ix u : AV} {x y : Value} (hv : γ ε v = some x) (hy : γ ε ix = some y) (hl : xIndex P t v ix = some u) : PV P ε (Instr.index t x y) u := by
  unfold xIndex at hl
  split at hl <;> try (simp at hl; done)
  rename_i k j
  simp only [γ, Option.some.injEq] at hy
  subst hy
  split at hl <;> try (simp at hl; done)
  · rename_i s ht
    split at hl <;> try (simp at hl; done)
    rename_i hj
    split at hl <;> try (simp at hl; done)
    rename_i c hc
    simp at hl; subst hl
    simp only [γ] at hv
    split at hv <;> simp at hv
    rename_i hok
    subst hv
    have hlt : c < 256 := by
      simp only [okb, List.all_eq_true, decide_eq_true_eq] at hok
      exact hok c (List.mem_of_getElem? hc)
    have hget : (bs s)[j.toNat]? = some (UInt8.ofNat c) := by
      have hlen : j.toNat < s.length := (List.getElem?_eq_some_iff.1 hc).1
      have hlen' : j.toNat < (bs s).size := by rw [bs_size]; exact hlen
      rw [getElem?_pos (bs s) j.toNat hlen']
      congr 1
      have h1 : (bs s).data.toList[j.toNat]? = some (UInt8.ofNat c) := by rw [bs_data]; simp [hc]
      have h2 : (bs s)[j.toNat]'hlen' = (bs s).data[j.toNat]'hlen' := rfl
      rw [h2]
      rw [Array.getElem?_toList] at h1
      rw [Array.getElem?_eq_getElem (by exact hlen')] at h1
      exact Option.some.inj h1
    have hnat : (UInt8.ofNat c).toNat = c := by simp [UInt8.toNat_ofNat']; omega
    refine ⟨.int .u8 c, fun w => ?_, (by simp [γ])⟩
    simp only [Instr.index, asIntOf, Sem.run_bind, Sem.run_pure, Result.andThen_ok, run_underlying ht, hj, if_true, hget, hnat]
  · rename_i len e cs ht
    split at hl <;> try (simp at hl; done)
    rename_i n hn
    split at hl <;> try (simp at hl; done)
    rename_i hj
    simp only [γ, Option.map_eq_some_iff] at hv
    obtain ⟨xs, hxs, rfl⟩ := hv
    obtain ⟨y, h3, h4⟩ := part_means (P := P) (xs := xs.toArray) (by simpa using hxs) hl
    exact ⟨y, fun w => by simp [Instr.index, asIntOf, run_underlying ht, hj, run_sizeT hn, h3], h4⟩
def emptySt : St := { ov := [], base := [], nxt := 0 }
theorem slice_pv {t : TypeId} {v u : AV} {x : Value} {lo hi : Option AV} {lo' hi' : Option Value} (hv : γ ε v = some x)
    (hlo : γo ε lo = some lo') (hhi : γo ε hi = some hi') (hl : xSlice P t v lo hi emptySt = some u) : PV P ε (Instr.sliceAt t x lo' hi' none) u := by
  unfold xSlice at hl
  split at hl <;> try (simp at hl; done)
  · rename_i s ht
    split at hl <;> try (simp at hl; done)
    rename_i l hh h1 h2
    split at hl <;> try (simp at hl; done)
    rename_i hc
    simp only [Bool.and_eq_true, decide_eq_true_eq] at hc
    simp at hl; subst hl
    simp only [γ] at hv
    split at hv <;> simp at hv
    rename_i hok
    subst hv
    refine ⟨.string ((bs s).extract l hh), fun w => ?_, (by simp [γ, bs_extract, okb_take (okb_drop hok l) (hh - l)])⟩
    have hb := run_bounds (P := P) (w := w) hlo hhi false (cap := s.length) h1 h2 hc.1 hc.2
    simp only [Instr.sliceAt, Instr.slice, Sem.run_bind, run_underlying ht, Result.andThen_ok, bs_size]
    simp [hb]
  · rename_i e i off len c ht
    split at hl <;> try (simp at hl; done)
    rename_i l hh n h1 h2 hn
    split at hl <;> try (simp at hl; done)
    rename_i hc
    simp only [Bool.and_eq_true, decide_eq_true_eq] at hc
    simp at hl; subst hl
    simp only [γ, Option.map_eq_some_iff] at hv
    obtain ⟨b, hb, rfl⟩ := hv
    refine ⟨.slice (some ⟨b, if c = l then off else off + l * n, none⟩) (hh - l) (c - l), fun w => ?_, (by simp [γ, hb, capOf])⟩
    have hbd := run_bounds (P := P) (w := w) hlo hhi true (cap := c) h1 h2 hc.1 hc.2
    simp only [Instr.sliceAt, Instr.slice, Sem.run_bind, run_underlying ht, Result.andThen_ok, capOf, hbd, run_sizeT hn, Sem.run_pure]
    split <;> simp [addr_add]
  · rename_i e i off len s ht
    split at hl <;> try (simp at hl; done)
    simp [capOk, emptySt, St.get, look] at hl
  · rename_i e ht
    split at hl <;> try (simp at hl; done)
    rename_i h1 h2 hn
    simp at hl; subst hl
    simp only [γ, Option.some.injEq] at hv
    subst hv
    refine ⟨.slice none 0 0, fun w => ?_, (by simp [γ])⟩
    have hbd := run_bounds (P := P) (w := w) hlo hhi true (cap := 0) h1 h2 (Nat.le_refl _) (Nat.le_refl _)
    simp [Instr.sliceAt, Instr.slice, run_underlying ht, hbd, run_sizeT hn]
  · rename_i c e i off ht
    split at hl <;> try (simp at hl; done)
    rename_i l hh n h1 h2 hn
    split at hl <;> try (simp at hl; done)
    rename_i hc
    simp only [Bool.and_eq_true, decide_eq_true_eq] at hc
    simp at hl; subst hl
    simp only [γ, Option.map_eq_some_iff] at hv
    obtain ⟨b, hb, rfl⟩ := hv
    refine ⟨.slice (some ⟨b, if c = l then off else off + l * n, none⟩) (hh - l) (c - l), fun w => ?_, (by simp [γ, hb, capOf])⟩
    have hbd := run_bounds (P := P) (w := w) hlo hhi false (cap := c) h1 h2 hc.1 hc.2
    simp only [Instr.sliceAt, Sem.run_bind, run_underlying ht, Result.andThen_ok, Instr.sureAddr, Sem.run_pure, hbd, run_sizeT hn]
    split <;> simp [addr_add]
theorem build_pv {t : TypeId} {parts : List (Nat × AV)} {xs : Array (Nat × Value)} {u : AV} (hp : γp ε parts = some xs.toList) (hl : xBuild P t parts = some u) : PV P ε (Instr.build t xs) u := by
  unfold xBuild at hl
  split at hl <;> try (simp at hl; done)
  · rename_i z fs hz ht
    obtain ⟨i, x, h1, h2, h3⟩ := zeroOf_spec hz
    cases hpl : placesT P t with
    | none => simp [hpl] at hl
    | some places =>
      simp only [hpl, Option.map_eq_some_iff] at hl
      obtain ⟨r, hr, rfl⟩ := hl
      obtain ⟨Y, h4, h5⟩ := xFill_sound parts xs.toList _ x.cells r hp (γ_cells (h3 ε)) hr
      have hb : P.built t xs.toList = some Y := by
        unfold placesT at hpl
        simp only [ht] at hpl
        unfold Program.built
        simp only [h1, ht, h2, hpl]
        rw [← h4]
        congr 1
        funext i
        simp
      exact ⟨_, fun w => run_build w t xs Y hb, (by simp [γ, h5])⟩
  · rename_i z n0 e hz ht
    obtain ⟨i, x, h1, h2, h3⟩ := zeroOf_spec hz
    split at hl <;> try (simp at hl; done)
    rename_i n hn
    simp only [Option.map_eq_some_iff] at hl
    obtain ⟨r, hr, rfl⟩ := hl
    obtain ⟨Y, h4, h5⟩ := xFill_sound parts xs.toList _ x.cells r hp (γ_cells (h3 ε)) hr
    have hb : P.built t xs.toList = some Y := by
      unfold sizeT at hn
      cases hie : P.info? e with
      | none => simp [hie] at hn
      | some ie =>
        simp [hie] at hn
        unfold Program.built
        simp only [h1, ht, h2, hie, hn]
        exact h4
    exact ⟨_, fun w => run_build w t xs Y hb, (by simp [γ, h5])⟩

def xpure (P : Program) (G : Nat) (A : List AV) (o : Oper) : Option AV :=
  match o.op with
  | .move x | .assign x => ev G A x
  | .pick c a b => match ev G A c with
    | some (.bool t) => ev G A (if t then a else b)
    | _ => none
  | .build t parts => match evp G A parts.toList with
    | some ps => xBuild P t ps
    | none => none
  | .nilCheck x => match ev G A x with
    | some v => if xNil v then some v else none
    | none => none
  | .binOp op t x y _ => match ev G A x, ev G A y with
    | some v, some u => xBin P op t x y v u
    | _, _ => none
  | .unOp op _ x => match ev G A x with
    | some v => match sc v with
      | some y => match pureM P (Op.unary op y) with
        | some z => cv 2 z
        | none => none
      | none => none
    | none => none
  | .convert src dst x => match ev G A x with
    | some v => match sc v with
      | some y => match pureM P (convert src dst y) with
        | some z => cv 2 z
        | none => none
      | none => none
    | none => none
  | .makeInterface t x => match ev G A x with
    | some v => match P.underlying t with
      | some (.interface _) => none
      | some _ => some (.iface t v)
      | none => none
    | none => none
  | .makeFunc fn first captured => match evs G A first.toList, evs G A captured.toList with
    | some a, some c => some (.func fn a c)
    | _, _ => none
  | .slice t x lo hi none => match ev G A x, evo G A lo, evo G A hi with
    | some v, some l, some h => xSlice P t v l h emptySt
    | _, _, _ => none
  | .fieldAddr t x f => match ev G A x with
    | some v => xFieldAddr P t v f
    | none => none
  | .field t x f => match ev G A x with
    | some v => xField P t v f
    | none => none
  | .indexAddr t x i => match ev G A x, ev G A i with
    | some v, some j => xIndexAddr P t v j
    | _, _ => none
  | .index t x i => match ev G A x, ev G A i with
    | some v, some j => xIndex P t v j
    | _, _ => none
  | .extract t ix => match ev G A t with
    | some (.tup l) => l[ix]?
    | _ => none
  | _ => none
theorem pv_val {s : Sem Value} {u : AV} (h : PV P ε s u) : ∃ y, (∀ w, (do pure (Next.value (← s)) : Sem Next).run P w = .ok (.value y) w) ∧ γ ε u = some y := by
  obtain ⟨y, h1, h2⟩ := h
  exact ⟨y, fun w => by simp [h1], h2⟩
theorem xpure_sound (h : Rel G B w0 ε S w) {ds : List Deferred} {A : List AV} {a : Act} (ha : AR ε ds A a) {o : Oper} {u : AV} (hl : xpure P G A o = some u) :
    ∃ y, (∀ w, (execOp a.eval o).run P w = .ok (.value y) w) ∧ γ ε u = some y := by
  obtain ⟨dst, op, ty, pos, after, guard⟩ := o
  unfold xpure at hl
  simp only at hl
  split at hl
  · exact ⟨_, fun w => by simp [execOp], ev_γ h ha hl⟩
  · exact ⟨_, fun w => by simp [execOp], ev_γ h ha hl⟩
  · split at hl <;> try (simp at hl; done)
    rename_i c x y _ t ht
    have h1 := ev_γ h ha ht
    have h2 := ev_γ h ha hl
    simp only [γ, Option.some.injEq] at h1
    exact ⟨_, fun w => by cases t <;> simp [execOp, ← h1, asBool], h2⟩
  · rename_i t parts
    split at hl <;> try (simp at hl; done)
    rename_i ps hps
    have e : (parts.map fun (i, x) => (i, a.eval x)).toList = parts.toList.map fun (i, x) => (i, a.eval x) := by simp
    exact pv_val (build_pv (by rw [e]; exact evp_γ h ha hps) hl)
  · split at hl <;> try (simp at hl; done)
    rename_i x v hv
    split at hl <;> simp at hl
    rename_i hn
    subst hl
    have h1 := ev_γ h ha hv
    refine ⟨_, fun w => ?_, h1⟩
    cases v <;> try (simp [xNil] at hn; done)
    case ptr => simp only [γ, Option.map_eq_some_iff] at h1; obtain ⟨b, hb, h1⟩ := h1; simp [execOp, ← h1]
    case iface => simp only [γ, Option.map_eq_some_iff] at h1; obtain ⟨b, hb, h1⟩ := h1; simp [execOp, ← h1]
    case func fn x y =>
      cases fn <;> try (simp [xNil] at hn; done)
      simp only [γ, Option.map_eq_some_iff, Option.bind_eq_some_iff] at h1; obtain ⟨b, hb, c, hc, h1⟩ := h1; simp [execOp, ← h1]
  · split at hl <;> try (simp at hl; done)
    rename_i v u hv hu
    exact pv_val (bin_run (P := P) (ev_γ h ha hv) (ev_γ h ha hu) hl)
  · split at hl <;> try (simp at hl; done)
    rename_i v hv
    split at hl <;> try (simp at hl; done)
    rename_i y hy
    split at hl <;> try (simp at hl; done)
    rename_i z hz
    have e := sc_γ hy (ev_γ h ha hv)
    subst e
    exact pv_val ⟨z, pureM_run hz, cv_sound ε 2 z u hl⟩
  · split at hl <;> try (simp at hl; done)
    rename_i v hv
    split at hl <;> try (simp at hl; done)
    rename_i y hy
    split at hl <;> try (simp at hl; done)
    rename_i z hz
    have e := sc_γ hy (ev_γ h ha hv)
    subst e
    exact pv_val ⟨z, pureM_run hz, cv_sound ε 2 z u hl⟩
  · split at hl <;> try (simp at hl; done)
    rename_i v hv
    split at hl <;> simp at hl
    rename_i t x _ _ d hne hd
    subst hl
    refine pv_val ⟨.iface t (a.eval x), fun w => ?_, (by simp [γ, ev_γ h ha hv])⟩
    simp only [Instr.makeInterface, Sem.run_bind, run_underlying hd, Result.andThen_ok]
    cases d <;> first | (exact absurd rfl (hne _)) | rfl
  · split at hl <;> simp at hl
    rename_i fn first captured _ _ x y hx hy
    subst hl
    have e1 : (first.map a.eval) = (first.toList.map a.eval).toArray := by apply Array.ext'; simp
    have e2 : (captured.map a.eval) = (captured.toList.map a.eval).toArray := by apply Array.ext'; simp
    refine pv_val ⟨.func fn (first.map a.eval) (captured.map a.eval), fun w => rfl, ?_⟩
    rw [e1, e2]
    simp only [γ, evs_γ h ha hx, evs_γ h ha hy]
    rfl
  · split at hl <;> try (simp at hl; done)
    rename_i v l hh hv hlo hhi
    exact pv_val (slice_pv (ev_γ h ha hv) (evo_γ h ha hlo) (evo_γ h ha hhi) hl)
  · split at hl <;> try (simp at hl; done)
    rename_i v hv
    exact pv_val (fieldAddr_pv (ev_γ h ha hv) hl)
  · split at hl <;> try (simp at hl; done)
    rename_i v hv
    exact pv_val (field_pv (ev_γ h ha hv) hl)
  · split at hl <;> try (simp at hl; done)
    rename_i v u hv hu
    exact pv_val (indexAddr_pv (ev_γ h ha hv) (ev_γ h ha hu) hl)
  · split at hl <;> try (simp at hl; done)
    rename_i v u hv hu
    exact pv_val (index_pv (ev_γ h ha hv) (ev_γ h ha hu) hl)
  · split at hl <;> try (simp at hl; done)
    rename_i ix _ l hv
    have h1 := ev_γ h ha hv
    simp only [γ, Option.map_eq_some_iff] at h1
    obtain ⟨xs, hxs, h1⟩ := h1
    obtain ⟨y, h2, h3⟩ := γs_get hxs hl
    have h2' : xs.toArray[ix]? = some y := by simpa using h2
    exact pv_val ⟨y, fun w => by rw [← h1]; simp [Instr.extract, h2], h3⟩
  · simp at hl
end
end
end Go.Rx
