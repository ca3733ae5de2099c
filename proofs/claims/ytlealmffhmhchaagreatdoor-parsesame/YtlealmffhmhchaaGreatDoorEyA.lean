/- The executor with an oracle, part 1: operations that yield one value in whatever world in which the standing memory lies. -/
import Derived.Test.YtlealmffhmhchaaGreatDoorExB
import Derived.LoopN
import Derived.OrdersHeld
import Derived.RangeFuncLeaves
import Derived.TacticsIn
import Derived.LoopNIn
namespace Go.Ex
noncomputable section
open Go.RowKit

/-! ### The oracle -/
def takeBr (b : Bool) (S : St) : Option (Bool × St) :=
  match S.orc with
  | .br o :: r => some (o, { S with orc := r, obl := .br b o :: S.obl })
  | _ => none
def takeOk (p : Prop) (S : St) : Option St :=
  match S.orc with
  | .ok :: r => some { S with orc := r, obl := .ok p :: S.obl }
  | _ => none
/-- What is to be shown of tests and conditions. -/
def Ob.plain : Ob → Prop
  | .br b o => b = o
  | .ok p => p
  | _ => True
def plains (l : List Ob) : Prop := ∀ o ∈ l, o.plain
/-- S' says of the memory what S says; more is to be shown. -/
structure Ahead (S S' : St) : Prop where
  ov : S'.ov = S.ov
  base : S'.base = S.base
  nxt : S'.nxt = S.nxt
  dl : S'.dl = S.dl
  rnd : S'.rnd = S.rnd
  obl : ∃ l, S'.obl = l ++ S.obl
theorem Ahead.refl (S : St) : Ahead S S := ⟨rfl, rfl, rfl, rfl, rfl, [], rfl⟩
theorem Ahead.trans {a b c : St} (h : Ahead a b) (h' : Ahead b c) : Ahead a c := by
  obtain ⟨l, hl⟩ := h.obl
  obtain ⟨m, hm⟩ := h'.obl
  exact ⟨h'.ov.trans h.ov, h'.base.trans h.base, h'.nxt.trans h.nxt, h'.dl.trans h.dl, h'.rnd.trans h.rnd, m ++ l, by rw [hm, hl, List.append_assoc]⟩
theorem takeBr_ahead {b o : Bool} {S S' : St} (h : takeBr b S = some (o, S')) : Ahead S S' ∧ (plains S'.obl → b = o) := by
  unfold takeBr at h
  split at h <;> simp at h
  obtain ⟨rfl, rfl⟩ := h
  exact ⟨⟨rfl, rfl, rfl, rfl, rfl, [_], rfl⟩, fun hp => hp (.br b _) (by simp)⟩
theorem takeOk_ahead {p : Prop} {S S' : St} (h : takeOk p S = some S') : Ahead S S' ∧ (plains S'.obl → p) := by
  unfold takeOk at h
  split at h <;> simp at h
  subst h
  exact ⟨⟨rfl, rfl, rfl, rfl, rfl, [_], rfl⟩, fun hp => hp (.ok p) (by simp)⟩

/-! ### Values in whatever world in which the standing memory lies -/
def Mem (ε : Env) (w : World) : Prop := ∀ b o, ε.M b = some o → w.heap[b]? = some o
def isLd (o : Oper) : Bool := match o.op with | .load _ _ => true | _ => false
def Sdy (P : Program) (ε : Env) (m : Bool) (s : Sem Next) (u : AV) : Prop := ∃ y, (∀ w, (m = true → Mem ε w) → s.run P w = .ok (.value y) w) ∧ γ ε u y
/-- A bool that a test yields is not decided. -/
def AV.blur : AV → AV
  | .bool b => .sb b
  | v => v
theorem γ_blur {ε : Env} {v : AV} {x : Value} (h : γ ε v x) : γ ε v.blur x := by cases v <;> exact h
/-- The next entry says that a condition holds. -/
def sayOk (S : St) : Bool := match S.orc with | .ok :: _ => true | _ => false

section
variable {P : Program} {G B : Nat} {w0 w : World} {ε : Env} {S : St}

def stPick (G : Nat) (A : List AV) (c x y : Operand) (S : St) : Option (AV × St) :=
  match ev G A c with
  | some (.bool t) => (ev G A (if t then x else y)).map fun v => (v, S)
  | some (.sb t) => match takeBr t S with
    | some (o, S') => (ev G A (if o then x else y)).map fun v => (v, S')
    | none => none
  | _ => none
def stBnd (d : Nat) : Option AV → Option Int
  | none => some d
  | some (.int _ i) => some i
  | some _ => none
/-- On what is told by a length that is a variable. -/
def stOk (P : Program) (G : Nat) (A : List AV) (o : Oper) (S : St) : Option (AV × St) :=
  match o.op with
  | .index t x i => match P.underlying t, ev G A x, ev G A i with
    | some .string, some (.str s), some (.int _ j) => (takeOk (0 ≤ j ∧ j < s.length) S).map fun S' => (.int .u8 ((s.getD j.toNat 0 : Nat) : Int), S')
    | _, _, _ => none
  | .indexAddr t x i => match P.underlying t, ev G A x, ev G A i with
    | some (.slice e), some (.snap n _ len f), some (.int _ j) => if sizeT P e = some n then (takeOk (0 ≤ j ∧ j < len) S).map fun S' => (.pin (f j.toNat), S') else none
    | _, _, _ => none
  | .slice t x lo hi none => match P.underlying t, ev G A x, evo G A lo, evo G A hi with
    | some .string, some (.str s), some lo, some hi => match stBnd 0 lo, stBnd s.length hi with
      | some l, some h => (takeOk (0 ≤ l ∧ l ≤ h ∧ h ≤ s.length) S).map fun S' => (.str ((s.drop l.toNat).take (h.toNat - l.toNat)), S')
      | _, _ => none
    | some (.slice e), some (.snap n z len f), some lo, some hi => match stBnd 0 lo, stBnd len hi with
      | some l, some h => if sizeT P e = some n then (takeOk (0 ≤ l ∧ l ≤ h ∧ h ≤ len) S).map fun S' => (.snap n z (h.toNat - l.toNat) (fun i => f (l.toNat + i)), S') else none
      | _, _ => none
    | _, _, _, _ => none
  | .binOp .add _ x y _ => match ev G A x, ev G A y with
    | some (.str s), some (.str s') => (takeOk (s.length + s'.length ≤ 9223372036854775807) S).map fun S' => (.str (s ++ s'), S')
    | _, _ => none
  | _ => none
def stPlain (P : Program) (G : Nat) (A : List AV) (o : Oper) : Option AV :=
  match o.op with
  | .load t a => match ev G A a with
    | some (.pin l) => match isAggT P t with
      | some true => match sizeT P t with
        | some n => if n ≤ l.length then some (.agg (l.take n)) else none
        | none => none
      | some false => l[0]?
      | none => none
    | _ => none
  | .fieldAddr t x f => match ev G A x with
    | some (.pin l) => match fieldT P t f with
      | some fd => match sizeT P fd.type with
        | some (_ + 1) => some (.pin (l.drop fd.offset))
        | _ => none
      | none => none
    | _ => xpure P G A o
  | .nilCheck x => match ev G A x with
    | some (.pin l) => some (.pin l)
    | _ => xpure P G A o
  | .binOp _ _ _ _ _ => (xpure P G A o).map AV.blur
  | .unOp op _ x => match ev G A x with
    | some (.sb _) => (xpure P G A o).map AV.blur
    | _ => xpure P G A o
  | .call c => match c.callee, c.argTypes.toList, c.args.toList with
    | .builtin .len, [t], [x] => match ev G A x with
      | some v => (xLen P t v).map fun (n : Nat) => AV.int .i64 (n : Int)
      | none => none
    | _, _, _ => none
  | .pick _ _ _ => none
  | _ => xpure P G A o
def st (P : Program) (G : Nat) (A : List AV) (o : Oper) (S : St) : Option (AV × St) :=
  match o.op with
  | .pick c x y => stPick G A c x y S
  | _ => if sayOk S then match stOk P G A o S with
      | some r => some r
      | none => (stPlain P G A o).map fun v => (v, S)
    else (stPlain P G A o).map fun v => (v, S)

theorem Sdy.of_pure {m : Bool} {s : Sem Next} {u : AV} (h : ∃ y, (∀ w, s.run P w = .ok (.value y) w) ∧ γ ε u y) : Sdy P ε m s u := by
  obtain ⟨y, h1, h2⟩ := h
  exact ⟨y, fun w _ => h1 w, h2⟩
theorem Sdy.of_v {m : Bool} {s : Sem Value} {u : AV} {y : Value} (h1 : ∀ w, (m = true → Mem ε w) → s.run P w = .ok y w) (h2 : γ ε u y) : Sdy P ε m (do pure (Next.value (← s)) : Sem Next) u :=
  ⟨y, fun w hm => by simp [h1 w hm], h2⟩
theorem stBnd_run {d : Nat} {lo : Option AV} {lo' : Option Value} {l : Int} (hlo : γo ε lo lo') (h : stBnd d lo = some l) (h0 : 0 ≤ l) : bnd d lo = some l.toNat := by
  cases lo with
  | none => simp [stBnd] at h; subst h; simp [bnd]
  | some v =>
    cases v <;> simp [stBnd] at h
    subst h
    simp [bnd, h0]

theorem stPick_sound (h : Rel G B w0 ε S w) {ds : List Deferred} {A : List AV} {a : Act} (ha : AR ε ds A a) {o : Oper} {c x y : Operand} (ho : o.op = .pick c x y) {u : AV} {S' : St}
    (hl : stPick G A c x y S = some (u, S')) : Ahead S S' ∧ (plains S'.obl → Sdy P ε (isLd o) (execOp a.eval o) u) := by
  obtain ⟨dst, op, ty, pos, after, guard⟩ := o
  simp only at ho
  subst ho
  unfold stPick at hl
  split at hl <;> try (simp at hl; done)
  · rename_i t ht
    simp only [Option.map_eq_some_iff, Prod.mk.injEq] at hl
    obtain ⟨v, hv, rfl, rfl⟩ := hl
    refine ⟨Ahead.refl _, fun _ => ?_⟩
    have h1 := ev_γ h ha ht
    have h2 := ev_γ h ha hv
    simp only [γ] at h1
    exact ⟨_, fun w _ => by cases t <;> simp [execOp, h1, asBool], h2⟩
  · rename_i t ht
    split at hl <;> try (simp at hl; done)
    rename_i o' S1 hb
    simp only [Option.map_eq_some_iff, Prod.mk.injEq] at hl
    obtain ⟨v, hv, rfl, rfl⟩ := hl
    obtain ⟨e1, e2⟩ := takeBr_ahead hb
    refine ⟨e1, fun hp => ?_⟩
    have := e2 hp
    subst this
    have h1 := ev_γ h ha ht
    have h2 := ev_γ h ha hv
    simp only [γ] at h1
    exact ⟨_, fun w _ => by cases t <;> simp [execOp, h1, asBool], h2⟩
theorem stPlain_sound (h : Rel G B w0 ε S w) {ds : List Deferred} {A : List AV} {a : Act} (ha : AR ε ds A a) {o : Oper} {u : AV} (hl : stPlain P G A o = some u) :
    Sdy P ε (isLd o) (execOp a.eval o) u := by
  obtain ⟨dst, op, ty, pos, after, guard⟩ := o
  unfold stPlain at hl
  simp only at hl
  split at hl
  · -- load
    rename_i t ad
    split at hl <;> try (simp at hl; done)
    rename_i l hv
    have h1 := ev_γ h ha hv
    simp only [γ] at h1
    obtain ⟨b, off, cs, t', fr, xs, he, hM, hxs, hc⟩ := h1
    have hcell : ∀ w, Mem ε w → ∀ j v, xs[j]? = some v → w.cell? ⟨b, off + j, none⟩ = some v := fun w hm j v hj => by
      simp [World.cell?, hm b _ hM, hc j v hj]
    split at hl
    · rename_i hagg
      split at hl <;> try (simp at hl; done)
      rename_i n hn
      split at hl <;> simp at hl
      rename_i hle
      subst hl
      have hlen := γs_length hxs
      refine Sdy.of_v (y := .agg (xs.take n).toArray) (fun w hm0 => ?_) (γ_mono h.cl _ _ (γ_agg' (γs_take hxs n)))
      have hm : Mem ε w := hm0 rfl
      have hcl := run_loadCells_list (P := P) w ⟨b, off, none⟩ (xs.take n) (fun j v hj => by
        rw [Addr.add_lit]
        simp only [List.getElem?_take] at hj
        split at hj
        · exact hcell w hm j v hj
        · simp at hj)
      have e : (xs.take n).length = n := by simp; omega
      rw [e] at hcl
      simp [Instr.loadAt, Instr.sureAddr, he, loadVar, run_isAgg hagg, run_sizeT hn, hcl]
    · rename_i hagg
      obtain ⟨y, h2, h3⟩ := γs_get hxs hl
      refine Sdy.of_v (y := y) (fun w hm0 => ?_) (γ_mono h.cl _ _ h3)
      have hm : Mem ε w := hm0 rfl
      have := hcell w hm 0 y h2
      simp only [Nat.add_zero] at this
      simp [Instr.loadAt, Instr.sureAddr, he, loadVar, run_isAgg hagg, this]
    · simp at hl
  · -- fieldAddr
    rename_i t x f
    split at hl
    · rename_i l hv
      split at hl <;> try (simp at hl; done)
      rename_i fd hfd
      split at hl <;> try (simp at hl; done)
      rename_i n hn
      simp at hl; subst hl
      obtain ⟨fs, h1, h2⟩ := fieldT_spec hfd
      have h3 := ev_γ h ha hv
      simp only [γ] at h3
      obtain ⟨b, off, cs, t', fr, xs, he, hM, hxs, hc⟩ := h3
      refine Sdy.of_v (y := .pointer (some ⟨b, off + fd.offset, none⟩)) (fun w _ => by
        simp [Instr.fieldAt, run_underlying h1, h2, Instr.sureAddr, he, fieldPlace, run_sizeT hn, Addr.add_lit]) ?_
      simp only [γ]
      refine ⟨b, off + fd.offset, cs, t', fr, xs.drop fd.offset, rfl, hM, γs_drop hxs _, fun j v hj => ?_⟩
      rw [List.getElem?_drop] at hj
      have := hc (fd.offset + j) v hj
      rwa [← Nat.add_assoc] at this
    · exact Sdy.of_pure (xpure_sound h ha hl)
  · -- nilCheck
    rename_i x
    split at hl
    · rename_i l hv
      simp at hl; subst hl
      have h3 := ev_γ h ha hv
      have h4 := h3
      simp only [γ] at h3
      obtain ⟨b, off, cs, t', fr, xs, he, _⟩ := h3
      exact ⟨_, fun w _ => by simp [execOp, he], h4⟩
    · exact Sdy.of_pure (xpure_sound h ha hl)
  · simp only [Option.map_eq_some_iff] at hl
    obtain ⟨v, hv, rfl⟩ := hl
    obtain ⟨y, h1, h2⟩ := xpure_sound h ha hv
    exact ⟨y, fun w _ => h1 w, γ_blur h2⟩
  · split at hl
    · simp only [Option.map_eq_some_iff] at hl
      obtain ⟨v, hv, rfl⟩ := hl
      obtain ⟨y, h1, h2⟩ := xpure_sound h ha hv
      exact ⟨y, fun w _ => h1 w, γ_blur h2⟩
    · exact Sdy.of_pure (xpure_sound h ha hl)
  · -- len
    rename_i c
    split at hl <;> try (simp at hl; done)
    rename_i t x hc hts hargs
    split at hl <;> try (simp at hl; done)
    rename_i v hv
    simp only [Option.map_eq_some_iff] at hl
    obtain ⟨n, hn, rfl⟩ := hl
    have h3 := ev_γ h ha hv
    refine ⟨.int .i64 n, fun w _ => ?_, by simp [γ]⟩
    have h4 := len_run (P := P) (w := w) (ty := ty) h3 hn
    have e1 : c.args = #[x] := arr_of_list hargs
    have e2 : c.argTypes = #[t] := arr_of_list hts
    simp [execOp, resolve, hc, e1, e2, invoke, builtin, h4]
  · simp at hl
  · exact Sdy.of_pure (xpure_sound h ha hl)
end
end
end Go.Ex
/- The executor with an oracle, part 2: operations under a condition that is told. -/
namespace Go.Ex
noncomputable section
open Go.RowKit
section
variable {P : Program} {G B : Nat} {w0 w : World} {ε : Env} {S : St}

theorem stOk_sound (h : Rel G B w0 ε S w) {ds : List Deferred} {A : List AV} {a : Act} (ha : AR ε ds A a) {o : Oper} {u : AV} {S' : St} (hl : stOk P G A o S = some (u, S')) :
    Ahead S S' ∧ (plains S'.obl → Sdy P ε (isLd o) (execOp a.eval o) u) := by
  obtain ⟨dst, op, ty, pos, after, guard⟩ := o
  unfold stOk at hl
  simp only at hl
  split at hl <;> try (simp at hl; done)
  · -- index
    rename_i t x i
    split at hl <;> try (simp at hl; done)
    rename_i s k j ht hx hi
    simp only [Option.map_eq_some_iff, Prod.mk.injEq] at hl
    obtain ⟨S1, hS, rfl, rfl⟩ := hl
    obtain ⟨e1, e2⟩ := takeOk_ahead hS
    refine ⟨e1, fun hp => ?_⟩
    have hj := e2 hp
    have hv := ev_γ h ha hx
    have hy := ev_γ h ha hi
    simp only [γ] at hv hy
    obtain ⟨hok, hv⟩ := hv
    have hlt0 : j.toNat < s.length := by omega
    obtain ⟨c, hc⟩ : ∃ c, s[j.toNat]? = some c := ⟨_, List.getElem?_eq_getElem hlt0⟩
    have hgd : s.getD j.toNat 0 = c := by simp [List.getD, hc]
    have hlt : c < 256 := by
      simp only [okb, List.all_eq_true, decide_eq_true_eq] at hok
      exact hok c (List.mem_of_getElem? hc)
    have hget : (bs s)[j.toNat]? = some (UInt8.ofNat c) := by
      have hlen' : j.toNat < (bs s).size := by rw [bs_size]; exact hlt0
      rw [getElem?_pos (bs s) j.toNat hlen']
      congr 1
      have h1 : (bs s).data.toList[j.toNat]? = some (UInt8.ofNat c) := by rw [bs_data]; simp [hc]
      have h2 : (bs s)[j.toNat]'hlen' = (bs s).data[j.toNat]'hlen' := rfl
      rw [h2]
      rw [Array.getElem?_toList] at h1
      rw [Array.getElem?_eq_getElem (by exact hlen')] at h1
      exact Option.some.inj h1
    have hnat : (UInt8.ofNat c).toNat = c := by simp [UInt8.toNat_ofNat']; omega
    refine Sdy.of_v (y := .int .u8 c) (fun w _ => ?_) (by simp only [γ, hgd])
    have h0 : 0 ≤ j := hj.1
    simp only [hv, hy, Instr.index, asIntOf, Sem.run_bind, Sem.run_pure, Result.andThen_ok, run_underlying ht, h0, if_true, hget, hnat]
  · -- indexAddr
    rename_i t x i
    split at hl <;> try (simp at hl; done)
    rename_i e n z len f k j ht hx hi
    split at hl <;> try (simp at hl; done)
    rename_i hn
    simp only [Option.map_eq_some_iff, Prod.mk.injEq] at hl
    obtain ⟨S1, hS, rfl, rfl⟩ := hl
    obtain ⟨e1, e2⟩ := takeOk_ahead hS
    refine ⟨e1, fun hp => ?_⟩
    have hj := e2 hp
    have hv := ev_γ h ha hx
    have hy := ev_γ h ha hi
    simp only [γ] at hv hy
    rcases hv with ⟨rfl, rfl, hv⟩ | ⟨rfl, b, off, cap, sp, hv, hcap, h00 | ⟨rfl, cs, t', fr, hM, hel⟩⟩
    · omega
    · omega
    · obtain ⟨xs, hxs, hxl, hc⟩ := hel j.toNat (by omega)
      refine Sdy.of_v (y := .pointer (some ⟨b, off + j.toNat * n, none⟩)) (fun w _ => ?_) ?_
      · have hj' : 0 ≤ j ∧ j < (len : Int) := hj
        simp [hv, hy, Instr.indexAt, asIntOf, run_underlying ht, hj', run_sizeT hn, Addr.add_lit]
      · simp only [γ]
        exact ⟨b, _, cs, t', fr, xs, rfl, hM, hxs, hc⟩
  · -- slice
    rename_i t x lo hi
    split at hl <;> try (simp at hl; done)
    · rename_i s lo' hi' ht hx hlo hhi
      split at hl <;> try (simp at hl; done)
      rename_i l hh hbl hbh
      simp only [Option.map_eq_some_iff, Prod.mk.injEq] at hl
      obtain ⟨S1, hS, rfl, rfl⟩ := hl
      obtain ⟨e1, e2⟩ := takeOk_ahead hS
      refine ⟨e1, fun hp => ?_⟩
      obtain ⟨c1, c2, c3⟩ := e2 hp
      have hv := ev_γ h ha hx
      simp only [γ] at hv
      obtain ⟨hok, hv⟩ := hv
      have glo := evo_γ h ha hlo
      have ghi := evo_γ h ha hhi
      have b1 := stBnd_run glo hbl c1
      have b2 := stBnd_run ghi hbh (by omega)
      refine Sdy.of_v (y := .string ((bs s).extract l.toNat hh.toNat)) (fun w _ => ?_) (by simp [γ, bs_extract, okb_take (okb_drop hok l.toNat) (hh.toNat - l.toNat)])
      have hb := run_bounds (P := P) (w := w) glo ghi false (cap := s.length) b1 b2 (by omega) (by omega)
      simp only [hv, Instr.sliceAt, Instr.slice, Sem.run_bind, run_underlying ht, Result.andThen_ok, bs_size]
      simp [hb]
    · rename_i e n z len f lo' hi' ht hx hlo hhi
      split at hl <;> try (simp at hl; done)
      rename_i l hh hbl hbh
      split at hl <;> try (simp at hl; done)
      rename_i hn
      simp only [Option.map_eq_some_iff, Prod.mk.injEq] at hl
      obtain ⟨S1, hS, rfl, rfl⟩ := hl
      obtain ⟨e1, e2⟩ := takeOk_ahead hS
      refine ⟨e1, fun hp => ?_⟩
      obtain ⟨c1, c2, c3⟩ := e2 hp
      have hv := ev_γ h ha hx
      simp only [γ] at hv
      have glo := evo_γ h ha hlo
      have ghi := evo_γ h ha hhi
      have b1 := stBnd_run glo hbl c1
      have b2 := stBnd_run ghi hbh (by omega)
      rcases hv with ⟨rfl, rfl, hv⟩ | ⟨rfl, b, off, cap, sp, hv, hcap, rfl | ⟨rfl, cs, t', fr, hM, hel⟩⟩
      · have el : l.toNat = 0 := by omega
        have eh : hh.toNat = 0 := by omega
        rw [el] at b1; rw [eh] at b2
        refine Sdy.of_v (y := .slice none 0 0) (fun w _ => ?_) (by simp only [γ]; exact .inl ⟨trivial, by omega, trivial⟩)
        have hbd := run_bounds (P := P) (w := w) glo ghi true (cap := 0) b1 b2 (Nat.le_refl _) (Nat.le_refl _)
        simp [hv, Instr.sliceAt, Instr.slice, run_underlying ht, hbd, run_sizeT hn]
      · have el : l.toNat = 0 := by omega
        have eh : hh.toNat = 0 := by omega
        rw [el] at b1; rw [eh] at b2
        refine Sdy.of_v (y := .slice (some ⟨b, off, sp⟩) 0 cap) (fun w _ => ?_) (by simp only [γ]; exact .inr ⟨trivial, b, off, cap, sp, by rw [el, eh], by omega, .inl (by omega)⟩)
        have hbd := run_bounds (P := P) (w := w) glo ghi true (cap := cap) b1 b2 (Nat.le_refl _) (Nat.zero_le _)
        simp [hv, Instr.sliceAt, Instr.slice, run_underlying ht, hbd, run_sizeT hn, Addr.add]
      · refine Sdy.of_v (y := .slice (some ⟨b, if cap = l.toNat then off else off + l.toNat * n, none⟩) (hh.toNat - l.toNat) (cap - l.toNat)) (fun w _ => ?_) ?_
        · have hbd := run_bounds (P := P) (w := w) glo ghi true (cap := cap) b1 b2 (by omega) (by omega)
          simp only [hv, Instr.sliceAt, Instr.slice, Sem.run_bind, run_underlying ht, Result.andThen_ok, run_sizeT hn, Sem.run_pure]
          rw [show Option.map a.eval none = none from rfl, hbd]
          simp only [Result.andThen_ok]
          split <;> simp [addr_add]
        · simp only [γ]
          refine .inr ⟨trivial, b, _, _, none, rfl, by omega, .inr ⟨rfl, cs, t', fr, hM, fun i hi => ?_⟩⟩
          obtain ⟨xs, hxs, hxl, hc⟩ := hel (l.toNat + i) (by omega)
          refine ⟨xs, hxs, hxl, fun j v hj => ?_⟩
          have := hc j v hj
          have hne : ¬ cap = l.toNat := by omega
          rw [if_neg hne]
          rwa [Nat.add_mul, ← Nat.add_assoc] at this
  · -- add
    split at hl <;> try (simp at hl; done)
    rename_i xt x y yt _ _ s s' hx hy
    simp only [Option.map_eq_some_iff, Prod.mk.injEq] at hl
    obtain ⟨S1, hS, rfl, rfl⟩ := hl
    obtain ⟨e1, e2⟩ := takeOk_ahead hS
    refine ⟨e1, fun hp => ?_⟩
    have hc := e2 hp
    have hv := ev_γ h ha hx
    have hu := ev_γ h ha hy
    have hb : xBin P .add xt x y (.str s) (.str s') = some (.str (s ++ s')) := by simp [xBin, sc, xStrOp, hc]
    obtain ⟨z, h1, h2⟩ := bin_run (P := P) hv hu hb
    exact Sdy.of_v (fun w _ => h1 w) h2
theorem st_sound (h : Rel G B w0 ε S w) {ds : List Deferred} {A : List AV} {a : Act} (ha : AR ε ds A a) {o : Oper} {u : AV} {S' : St} (hl : st P G A o S = some (u, S')) :
    Ahead S S' ∧ (plains S'.obl → Sdy P ε (isLd o) (execOp a.eval o) u) := by
  have plain : ∀ {v : AV} {S1 : St}, (stPlain P G A o).map (fun v => (v, S)) = some (v, S1) → Ahead S S1 ∧ (plains S1.obl → Sdy P ε (isLd o) (execOp a.eval o) v) := by
    intro v S1 hv
    simp only [Option.map_eq_some_iff, Prod.mk.injEq] at hv
    obtain ⟨v', hv', rfl, rfl⟩ := hv
    exact ⟨Ahead.refl _, fun _ => stPlain_sound h ha hv'⟩
  unfold st at hl
  split at hl
  · rename_i ho
    exact stPick_sound h ha ho hl
  · split at hl
    · split at hl
      · rename_i r hr
        simp at hl; subst hl
        exact stOk_sound h ha hr
      · exact plain hl
    · exact plain hl
end
end
end Go.Ex
/- The executor with an oracle, part 3: code, loops, calls. -/
namespace Go.Ex
noncomputable section
open Go.RowKit

/-! ### What is still reached -/
mutual
def AV.ids : AV → List Nat
  | .ptr i _ => [i]
  | .slc i _ _ _ => [i]
  | .yld i => [i]
  | .zs i _ _ _ _ => [i]
  | .func _ a c => AVs.ids a ++ AVs.ids c
  | .iface _ v => AV.ids v
  | .agg l => AVs.ids l
  | .tup l => AVs.ids l
  | _ => []
def AVs.ids : List AV → List Nat
  | [] => []
  | v :: l => AV.ids v ++ AVs.ids l
end
def ABlk.ids : ABlk → List Nat
  | .cells cs _ _ _ => AVs.ids cs
  | .sit _ _ => []
  | .dfr => []
  | .lp _ _ A _ _ _ D => D :: AVs.ids A
def memN (n : Nat) : List Nat → Bool
  | [] => false
  | m :: l => if m = n then true else memN n l
/-- From the numbers 'todo' on, those from n0 on that blocks of 'ov' lead to. -/
def reach (n0 : Nat) (ov : Bl) : Nat → List Nat → List Nat → List Nat
  | 0, _, seen => seen
  | _ + 1, [], seen => seen
  | fuel + 1, i :: todo, seen =>
    if i < n0 then reach n0 ov fuel todo seen
    else if memN i seen then reach n0 ov fuel todo seen
    else match look ov i with
      | some (some b) => reach n0 ov fuel (ABlk.ids b ++ todo) (i :: seen)
      | _ => reach n0 ov fuel todo (i :: seen)
def oldIds (n0 : Nat) : Bl → List Nat
  | [] => []
  | (i, some b) :: l => if i < n0 then ABlk.ids b ++ oldIds n0 l else oldIds n0 l
  | (_, none) :: l => oldIds n0 l
def keepOv (n0 : Nat) (seen : List Nat) : Bl → Bl
  | [] => []
  | (i, b) :: l => if i < n0 then (i, b) :: keepOv n0 seen l else if memN i seen then (i, b) :: keepOv n0 seen l else keepOv n0 seen l
def mergeOv (n0 : Nat) (kept ov : Bl) : Bl :=
  match kept with
  | [] => ov
  | (i, b) :: l => if i < n0 then upd (mergeOv n0 l ov) i b else (i, b) :: mergeOv n0 l ov
theorem look_mergeOv (n0 : Nat) (ov : Bl) : ∀ (kept : Bl) (k : Nat), look (mergeOv n0 kept ov) k = match look kept k with | some b => some b | none => look ov k
  | [], k => rfl
  | (i, b) :: l, k => by
    have ih := look_mergeOv n0 ov l k
    simp only [mergeOv]
    split
    · rw [look_upd, ih]
      by_cases h : i = k <;> simp [look, h]
    · simp only [look, ih]
      by_cases h : i = k <;> simp [h]
theorem look_keepOv (n0 : Nat) (seen : List Nat) : ∀ (ov : Bl) (k : Nat), look (keepOv n0 seen ov) k = look ov k ∨ (look (keepOv n0 seen ov) k = none ∧ n0 ≤ k)
  | [], k => .inl rfl
  | (i, b) :: l, k => by
    have ih := look_keepOv n0 seen l k
    simp only [keepOv]
    by_cases h1 : i < n0
    · simp only [h1, if_true, look]
      by_cases h : i = k
      · simp [h]
      · simpa [h] using ih
    · by_cases h2 : memN i seen = true
      · simp only [h1, if_false, h2, if_true, look]
        by_cases h : i = k
        · simp [h]
        · simpa [h] using ih
      · simp only [h1, if_false, h2, look, Bool.false_eq_true]
        by_cases h : i = k
        · subst h
          right
          refine ⟨?_, by omega⟩
          clear ih
          induction l with
          | nil => rfl
          | cons p l ih =>
            obtain ⟨j, c⟩ := p
            simp only [keepOv]
            by_cases hj1 : j < n0
            · have : ¬ j = i := by omega
              simp only [hj1, if_true, look, this, if_false]
              exact ih
            · by_cases hj2 : memN j seen = true
              · have : ¬ j = i := fun e => h2 (e ▸ hj2)
                simp only [hj1, if_false, hj2, if_true, look, this]
                exact ih
              · simp only [hj1, if_false, hj2, Bool.false_eq_true]
                exact ih
        · simpa [h] using ih
theorem mem_keepOv {n0 : Nat} {seen : List Nat} : ∀ {ov : Bl} {p : Nat × Option ABlk}, p ∈ keepOv n0 seen ov → p ∈ ov
  | [], p, h => by simp [keepOv] at h
  | (i, b) :: l, p, h => by
    simp only [keepOv] at h
    split at h
    · rcases List.mem_cons.1 h with rfl | h
      · simp
      · simp [mem_keepOv h]
    · split at h
      · rcases List.mem_cons.1 h with rfl | h
        · simp
        · simp [mem_keepOv h]
      · simp [mem_keepOv h]
theorem mergeOv_bnd {n0 n : Nat} {ov : Bl} (h : ∀ p ∈ ov, p.1 < n) : ∀ {kept : Bl}, (∀ p ∈ kept, p.1 < n) → ∀ p ∈ mergeOv n0 kept ov, p.1 < n
  | [], _, p, hp => h p hp
  | (i, b) :: l, hk, p, hp => by
    have ih := mergeOv_bnd (n0 := n0) h (kept := l) (fun q hq => hk q (by simp [hq]))
    simp only [mergeOv] at hp
    split at hp
    · exact upd_bnd ih (hk (i, b) (by simp)) b p hp
    · rcases List.mem_cons.1 hp with rfl | hp
      · exact hk _ (by simp)
      · exact ih p hp

/-- Behind a call: what it has turned of the caller's, and what its answer leads to. S: ahead of the call; R: behind it, over the caller's as its base. -/
def back (S : St) (v : List AV) (R : St) : St :=
  let seen := reach S.nxt R.ov 100000 (AVs.ids v ++ oldIds S.nxt R.ov) []
  { ov := mergeOv S.nxt (keepOv S.nxt seen R.ov) S.ov, base := S.base, nxt := R.nxt, dl := S.dl, rnd := S.rnd, orc := R.orc, obl := R.obl }
section
variable {P : Program} {G B : Nat} {w0 w : World} {ε : Env} {S : St}
theorem Rel.back {R : St} {v : List AV} (h : Rel G B w0 ε R w) (hb : R.base = S.ov ++ S.base) (h1 : ∀ p ∈ S.ov, p.1 < S.nxt) (h2 : ∀ p ∈ S.base, p.1 < S.nxt) (hn : S.nxt ≤ R.nxt) :
    Rel G B w0 ε (back S v R) w := by
  have b1 : ∀ p ∈ S.ov, p.1 < R.nxt := fun p hp => Nat.lt_of_lt_of_le (h1 p hp) hn
  refine h.sub rfl ?_ (fun p hp => Nat.lt_of_lt_of_le (h2 p hp) hn) ?_
  · exact mergeOv_bnd b1 fun p hp => h.bov p (mem_keepOv hp)
  · intro i b hget
    simp only [Go.Ex.back, St.get, look_mergeOv] at hget
    simp only [St.get, hb, look_append]
    rcases look_keepOv S.nxt (reach S.nxt R.ov 100000 (AVs.ids v ++ oldIds S.nxt R.ov) []) R.ov i with hk | ⟨hk, hi⟩
    · rw [hk] at hget
      cases hr : look R.ov i with
      | some c => simp only [hr] at hget ⊢; exact hget
      | none =>
        simp only [hr] at hget ⊢
        cases hs : look S.ov i with
        | some c => simp only [hs] at hget ⊢; exact hget
        | none => simp only [hs] at hget ⊢; exact hget
    · rw [hk] at hget
      simp only [look_none_of_bnd h1 i hi, look_none_of_bnd h2 i hi] at hget
      cases hget
/-- The world ahead of a call, as the callee's base. -/
def into (S : St) : St := { ov := [], base := S.ov ++ S.base, nxt := S.nxt, orc := S.orc, obl := S.obl }
theorem Rel.into (h : Rel G B w0 ε S w) : Rel G B w0 ε (into S) w := by
  refine h.sub rfl (by simp [Go.Ex.into]) ?_ ?_
  · intro p hp
    simp only [Go.Ex.into, List.mem_append] at hp
    rcases hp with hp | hp
    · exact h.bov p hp
    · exact h.bba p hp
  · intro i b hget
    simp only [Go.Ex.into, St.get, look, look_append] at hget
    simp only [St.get]
    cases hr : look S.ov i with
    | some c => simp only [hr] at hget ⊢; exact hget
    | none => simp only [hr] at hget ⊢; exact hget
end

/-! ### The executor -/
def XE.out : XE → Exit
  | .normal => .normal
  | .exit id => .exit id
  | .ret => .ret
/-- The jump that a round's body leaves by. -/
def XE.jump : XE → Option Code
  | .normal => none
  | .exit id => some (.exit id)
  | .ret => some .ret
/-- S' with what S says of the activation. -/
def St.of (S S' : St) : St := { S' with dl := S.dl, rnd := S.rnd }
/-- The record of a loop, in another state. -/
def lpSet (S : St) (i : Nat) (st : LoopState) (pend : Option Code) : Option St :=
  match S.get i with
  | some (.lp _ _ A ps assign body D) => some (S.put i (some (.lp st pend A ps assign body D)))
  | _ => none
def loopOf (S : St) (i : Nat) : Option (LoopState × Option Code) :=
  match S.get i with
  | some (.lp st pend _ _ _ _ _) => some (st, pend)
  | _ => none
/-- The deferred calls, at a function's end. -/
def xLeave (I : List (FuncId × Nat)) : List AD → St → Option St
  | [], S => some S
  | .idle f n :: l, S => if I.any fun p => decide (p.1 = f) && decide (p.2 = n) then xLeave I l S else none
  | .coll i :: l, S => match S.get i with
    | some .dfr => xLeave I l (S.put i none)
    | _ => none
inductive Job where
  | code (c : Code) (A : List AV) (S : St)
  | rounds (c : Code) (A : List AV) (S : St)
  | call (f : FuncId) (args : List AV) (S : St)
  | draw (H : List Nat) (S0 : St) (fl : Bool) (all : Array Oper) (left : Nat) (listed : Array Bool) (A : List AV) (S : St)
  | rest (H : List Nat) (S0 : St) (fl : Bool) (all : Array Oper) (left : Nat) (listed : Array Bool) (is : List Nat) (A : List AV) (S : St) (A' : List AV) (S' : St)
  | one (H : List Nat) (S0 : St) (fl : Bool) (all : Array Oper) (left : Nat) (listed : Array Bool) (i : Nat) (A : List AV) (S : St)
abbrev Out := XE × List AV × St

def xput (A : List AV) (dst : Option Tmp) (v : AV) : List AV :=
  match dst with
  | some d => setN v A d
  | none => A
/-- The place of the guard's bool. -/
def guardAt (all : Array Oper) (o : Oper) : Option (Tmp × Bool) :=
  match o.guard with
  | some (j, want) => match (all[j]?).bind (·.dst) with
    | some t => some (t, want)
    | none => none
  | none => none
/-- A guard's bool is decided. -/
def gd (all : Array Oper) (A : List AV) (S : St) (o : Oper) : Option (List AV × St) :=
  match guardAt all o with
  | some (t, _) => match A[t]? with
    | some (.sb b) => match takeBr b S with
      | some (o, S') => some (setN (.bool o) A t, S')
      | none => none
    | _ => some (A, S)
  | none => some (A, S)
def xyield (all : Array Oper) (A : List AV) (j : Nat) : Option Bool :=
  match (all[j]?).bind (·.dst) with
  | some t => match A[t]? with
    | some (.bool b) => some b
    | some (.sb b) => some b
    | _ => none
  | none => none
/-- Does an operation come up: where nothing is known, the executor stands still. -/
def xwanted (all : Array Oper) (A : List AV) (o : Oper) : Option Bool :=
  match o.guard with
  | none => some true
  | some (j, want) => match xyield all A j with
    | some b => some (b == want)
    | none => match (all[j]?).bind (·.dst) with
      | some t => match A[t]? with
        | some (.tup _) => some false
        | _ => none
      | none => some false
def xres (P : Program) (A : List AV) (S : St) : List ResultVar → Option (List AV)
  | [] => some []
  | .tmp t :: l => match xres P A S l with
    | some vs => some (A.getD t (.tup []) :: vs)
    | none => none
  | .cell a t :: l => match xLoad P t (A.getD a (.tup [])) S with
    | some v => match xres P A S l with
      | some vs => some (v :: vs)
      | none => none
    | none => none
def packRes : List AV → AV
  | [v] => v
  | l => .tup l
def rdy (listed : Array Bool) : List Oper → Nat → List Nat
  | [], _ => []
  | o :: l, i => if !listed.getD i true && o.after.toList.all (fun e => !Region.binds .any e || listed.getD e.on false) then i :: rdy listed l (i + 1) else rdy listed l (i + 1)
/-- A load of a block that the region does not write. -/
def xheld (P : Program) (G : Nat) (H : List Nat) (S0 : St) (A : List AV) (o : Oper) : Option AV :=
  match o.op with
  | .load t a => match ev G A a with
    | some (.ptr i off) => if memN i H then xLoad P t (.ptr i off) S0 else none
    | _ => none
  | _ => none
/-- Of operations that may come up: one that yields its value in whatever world, or is not wanted. -/
def firstPure (P : Program) (G : Nat) (H : List Nat) (S0 : St) (fl : Bool) (all : Array Oper) (A : List AV) (S : St) : List Nat → Option (Nat × Oper × AV × List AV × St)
  | [] => none
  | i :: is => match all[i]? with
    | some o => match gd all A S o with
      | some (A1, S1) => match xwanted all A1 o with
        | some true => match (if fl && isLd o then none else st P G A1 o S1) with
          | some (v, S2) => some (i, o, v, A1, S2)
          | none => match xheld P G H S0 A1 o with
            | some v => some (i, o, v, A1, S1)
            | none => firstPure P G H S0 fl all A S is
        | some false => some (i, o, .tup [], A1, S1)
        | none => none
      | none => none
    | none => firstPure P G H S0 fl all A S is
def hasEdge (o : Oper) (i : Nat) : Bool := o.after.toList.any fun e => Region.binds .any e && decide (e.on = i)
/-- Any two operations of which none waits for the other are apart. -/
def apartAll (all : Array Oper) : Bool :=
  all.toList.zipIdx.all fun (x, i) => all.toList.zipIdx.all fun (y, j) => decide (i = j) || hasEdge y i || hasEdge x j || x.apart all y

structure Cfg where
  P : Program
  G : Nat
  E : Ext
  I : List (FuncId × Nat)
abbrev Rec := Job → Option Out

mutual
/-- It tells of no call's own memory. -/
def clB (G : Nat) : AV → Bool
  | .ptr i _ => decide (i < G)
  | .slc _ _ _ _ | .zs _ _ _ _ _ | .yld _ | .any => false
  | .func _ a c => clBs G a && clBs G c
  | .iface _ v => clB G v
  | .agg l => clBs G l
  | .tup l => clBs G l
  | _ => true
def clBs (G : Nat) : List AV → Bool
  | [] => true
  | v :: l => clB G v && clBs G l
end
mutual
theorem clB_γ {ε : Env} (hg : ∀ g, g < ε.G → ε.δ g = some g) : ∀ (v : AV) (x : Value), clB ε.G v = true → γ ε v x → γ ε.cl v x
  | .any, x, h, hx => by simp [clB] at h
  | .int k n, x, h, hx => by simpa [γ] using hx
  | .bool b, x, h, hx => by simpa [γ] using hx
  | .sb b, x, h, hx => by simpa [γ] using hx
  | .flt k n, x, h, hx => by simpa [γ] using hx
  | .str s, x, h, hx => by simpa [γ] using hx
  | .ptr i off, x, h, hx => by
    simp only [clB, decide_eq_true_eq] at h
    simp only [γ] at hx ⊢
    obtain ⟨b, hb, hx⟩ := hx
    rw [hg i h] at hb
    simp at hb; subst hb
    exact ⟨i, by simp [Env.cl, h], hx⟩
  | .nilptr, x, h, hx => by simpa [γ] using hx
  | .slc .., x, h, hx => by simp [clB] at h
  | .nilslc, x, h, hx => by simpa [γ] using hx
  | .nilmap, x, h, hx => by simpa [γ] using hx
  | .nilfunc, x, h, hx => by simpa [γ] using hx
  | .niliface, x, h, hx => by simpa [γ] using hx
  | .zs .., x, h, hx => by simp [clB] at h
  | .yld i, x, h, hx => by simp [clB] at h
  | .func fn a c, x, h, hx => by
    simp only [clB, Bool.and_eq_true] at h
    simp only [γ] at hx ⊢
    obtain ⟨xs, h1, ys, h2, h3⟩ := hx
    exact ⟨xs, clBs_γ hg a xs h.1 h1, ys, clBs_γ hg c ys h.2 h2, h3⟩
  | .iface t v, x, h, hx => by
    simp only [clB] at h
    simp only [γ] at hx ⊢
    obtain ⟨y, h1, h2⟩ := hx
    exact ⟨y, clB_γ hg v y h h1, h2⟩
  | .agg l, x, h, hx => by
    simp only [clB] at h
    simp only [γ] at hx ⊢
    obtain ⟨y, h1, h2⟩ := hx
    exact ⟨y, clBs_γ hg l y h h1, h2⟩
  | .tup l, x, h, hx => by
    simp only [clB] at h
    simp only [γ] at hx ⊢
    obtain ⟨y, h1, h2⟩ := hx
    exact ⟨y, clBs_γ hg l y h h1, h2⟩
  | .snap n z len at_, x, h, hx => by
    simp only [γ] at hx ⊢
    exact hx
  | .pin l, x, h, hx => by
    simp only [γ] at hx ⊢
    exact hx
theorem clBs_γ {ε : Env} (hg : ∀ g, g < ε.G → ε.δ g = some g) : ∀ (l : List AV) (xs : List Value), clBs ε.G l = true → γs ε l xs → γs ε.cl l xs
  | [], xs, h, hx => by simpa [γs] using hx
  | v :: l, xs, h, hx => by
    simp only [clBs, Bool.and_eq_true] at h
    obtain ⟨x, ys, h1, h2, h3⟩ := γs_cons.1 hx
    exact γs_cons.2 ⟨x, ys, clB_γ hg v x h.1 h1, clBs_γ hg l ys h.2 h2, h3⟩
end
/-- The function of the program's own that a call comes to, and its arguments. -/
def pureTo (P : Program) (G : Nat) (A : List AV) (c : Call) : Option (FuncId × List AV) :=
  match evs G A c.args.toList with
  | some args => match c.callee with
    | .value f => match ev G A f with
      | some (.func (.func g) first captured) => if funcOk P g then some (g, first ++ args ++ captured) else none
      | _ => none
    | .invoke r name => match ev G A r with
      | some (.iface t v) => match xMethod P t v name with
        | some (f, u) => if funcOk P f then some (f, u :: args) else none
        | none => none
      | _ => none
    | _ => none
  | none => none
/-- A call of a function whose answer is told, and which turns nothing. -/
def pureF (K : Cfg) (o : Oper) (A : List AV) (S : St) : Option (AV × St) :=
  match o.op with
  | .call c => match S.orc with
    | .ret v :: rest => match pureTo K.P K.G A c with
      | some (f, args) => if clBs K.G args then some (v, { S with orc := rest, obl := .pure f args v :: S.obl }) else none
      | none => none
    | _ => none
  | _ => none
/-- One operation's outcome; calls by r. 'rd': rounds and deferred calls may come. -/
def stepN (r : Rec) (rd : Bool) (o : Oper) (A : List AV) (S : St) : NX → Option Out
  | .val v S' => some (.normal, xput A o.dst v, S.of S')
  | .unit S' => some (.normal, xput A o.dst (.tup []), S.of S')
  | .enter f args S' => match r (.call f args (S.of S')) with
    | some (_, [v], S'') => some (.normal, xput A o.dst v, S'')
    | _ => none
  | .dfr d S' => match rd, S.rnd with
    | true, none => some (.normal, xput A o.dst (.tup []), { S.of S' with dl := d :: S.dl })
    | _, _ => none
  | .round i A1 assign body S' => match rd, r (.code assign A1 { S' with dl := [], rnd := some i }) with
    | true, some (.normal, A2, S2) => match loopOf S2 i with
      | some (.ready, pend) => match lpSet S2 i .busy pend with
        | some S3 => match r (.code body A2 S3) with
          | some (e, _, S4) => match lpSet S4 i (if e.jump.isNone then .ready else .done) e.jump with
            | some S5 => some (.normal, xput A o.dst (.bool e.jump.isNone), S.of S5)
            | none => none
          | none => none
        | none => none
      | _ => none
    | _, _ => none
def stepF (K : Cfg) (r : Rec) (rd : Bool) (o : Oper) (A : List AV) (S : St) : Option Out :=
  match xop K.P K.G K.E A S o with
  | some n => stepN r rd o A S n
  | none => none
/-- One wanted operation. -/
def opF (K : Cfg) (r : Rec) (rd : Bool) (o : Oper) (A : List AV) (S : St) : Option Out :=
  match st K.P K.G A o S with
  | some (v, S') => some (.normal, xput A o.dst v, S')
  | none => match pureF K o A S with
    | some (v, S') => some (.normal, xput A o.dst v, S')
    | none => stepF K r rd o A S
def opsC (K : Cfg) (r : Rec) (all : Array Oper) (o : Oper) (ih : List AV → St → Option Out) (A : List AV) (S : St) : Option Out :=
  match gd all A S o with
  | some (A1, S1) => match xwanted all A1 o with
    | some true => match opF K r true o A1 S1 with
      | some (_, A', S') => ih A' S'
      | none => none
    | some false => ih (xput A1 o.dst (.tup [])) S1
    | none => none
  | none => none
def opsF (K : Cfg) (r : Rec) (all : Array Oper) (l : List Oper) : List AV → St → Option Out :=
  List.rec (motive := fun _ => List AV → St → Option Out) (fun A S => some (.normal, A, S)) (fun o _ ih A S => opsC K r all o ih A S) l

def codeSeq (r : Rec) (b : Code) : Option Out → Option Out
  | some (.normal, A', S') => r (.code b A' S')
  | x => x
def codeCond (r : Rec) (t e : Code) (A : List AV) (S : St) : Option AV → Option Out
  | some (.bool true) => r (.code t A S)
  | some (.bool false) => r (.code e A S)
  | some (.sb b) => match takeBr b S with
    | some (true, S') => r (.code t A S')
    | some (false, S') => r (.code e A S')
    | none => none
  | _ => none
def codeBlock (id : Nat) : Option Out → Option Out
  | some (.exit id', A', S') => some (if id' = id then .normal else .exit id', A', S')
  | x => x
def codeDraw (r : Rec) (ops : Array Oper) (A : List AV) (S : St) : Option Out :=
  match S.rnd, S.orc, Region.noSelect ops && apartAll ops with
  | none, .draw H :: rest, true => r (.draw H S false ops ops.size (Array.replicate ops.size false) A { S with orc := rest })
  | _, _, _ => none
def codeRange2 (r : Rec) (A : List AV) (S S2 : St) : Option Out :=
  match loopOf S2 (S.nxt + 1) with
  | some (.busy, _) => none
  | some (_, pend) => match lpSet S2 (S.nxt + 1) .exhausted pend with
    | some S3 => match pend with
      | none => some (.normal, A, { S3 with dl := .coll S.nxt :: S.dl })
      | some c => r (.code c A { S3 with dl := .coll S.nxt :: S.dl })
    | none => none
  | _ => none
def codeRange (K : Cfg) (r : Rec) (g : Operand) (ps : Array Tmp) (assign body : Code) (A : List AV) (S : St) : Option Out :=
  match S.rnd, ev K.G A g with
  | none, some (.func (.func f) first captured) => match funcOk K.P f with
    | true => match r (.call f (first ++ [.yld (S.nxt + 1)] ++ captured) ((S.new .dfr).new (.lp .ready none A ps assign body S.nxt))) with
      | some (_, _, S2) => codeRange2 r A S S2
      | none => none
    | false => none
  | _, _ => none
def codeF (K : Cfg) (r : Rec) (c : Code) (A : List AV) (S : St) : Option Out :=
  match c with
  | .skip => some (.normal, A, S)
  | .label _ => some (.normal, A, S)
  | .seq a b => codeSeq r b (r (.code a A S))
  | .cond c t e => codeCond r t e A S (ev K.G A c)
  | .block id body => codeBlock id (r (.code body A S))
  | .loop body => r (.rounds body A S)
  | .scope body => match S.rnd with
    | none => r (.code body A S)
    | some _ => none
  | .exit id => some (.exit id, A, S)
  | .ret => some (.ret, A, S)
  | .region _ ops false => opsF K r ops ops.toList A S
  | .region _ ops true => codeDraw r ops A S
  | .rangeFunc g ps assign body => codeRange K r g ps assign body A S
  | .goto _ => none
  | .refuse _ => none
/-- A loop: its outcome is told, or a round is gone through. -/
def roundsF (r : Rec) (c : Code) (A : List AV) (S : St) : Option Out :=
  match S.orc with
  | .loop e A' ov nxt :: rest => if S.nxt ≤ nxt && ov.all (fun p => decide (p.1 < nxt)) then some (e, A', { S with ov := ov, nxt := nxt, orc := rest, obl := .loop c A S.ov S.base S.nxt S.dl S.rnd e A' ov nxt :: S.obl }) else none
  | .inl :: rest => match r (.code c A { S with orc := rest }) with
    | some (.normal, A', S') => r (.rounds c A' S')
    | x => x
  | _ => none
def callRes (K : Cfg) (fn : Func) (A' : List AV) (S S' : St) : Option Out :=
  match xLeave K.I S'.dl S' with
  | some S' => match xres K.P A' S' fn.results.toList with
    | some vs => some (.ret, [packRes vs], back S vs S')
    | none => none
  | none => none
def bodyF (K : Cfg) (r : Rec) (f : FuncId) (args : List AV) (S : St) : Option Out :=
  match K.P.funcs[f]? with
  | some fn => match fn.body with
    | some c => match r (.code c (args ++ List.replicate (fn.ntmps - args.length) (.tup [])) (into S)) with
      | some (.exit _, _, _) => none
      | some (_, A', S') => callRes K fn A' S S'
      | none => none
    | none => none
  | none => none
/-- A call: its answer and what it has turned are told, or the body is gone through. -/
def callF (K : Cfg) (r : Rec) (f : FuncId) (args : List AV) (S : St) : Option Out :=
  match S.orc with
  | .retS v ov nxt :: rest => if S.nxt ≤ nxt && ov.all (fun p => decide (p.1 < nxt)) then some (.ret, [v], { S with ov := mergeOv S.nxt ov S.ov, nxt := nxt, orc := rest, obl := .call f args (S.ov ++ S.base) S.nxt v ov nxt :: S.obl }) else none
  | .inl :: rest => bodyF K r f args { S with orc := rest }
  | _ => none
/-- Region of drawn order: first whatever yields its value whenever it comes; then all others in each order that may be: all come to one. -/
def drawF (K : Cfg) (r : Rec) (H : List Nat) (S0 : St) (fl : Bool) (all : Array Oper) (left : Nat) (listed : Array Bool) (A : List AV) (S : St) : Option Out :=
  match rdy listed all.toList 0 with
  | [] => some (.normal, A, S)
  | i :: is => match left with
    | 0 => none
    | left + 1 => match firstPure K.P K.G H S0 fl all A S (i :: is) with
      | some (j, o, v, A1, S1) => r (.draw H S0 fl all left (listed.setIfInBounds j true) (xput A1 o.dst v) S1)
      | none => match r (.one H S0 fl all left listed i A S) with
        | some (_, A', S') => r (.rest H S0 fl all left listed is A S A' S')
        | none => none
def sameEnd (A : List AV) (S : St) (A' : List AV) (S' : St) : Prop := A = A' ∧ S.ov = S'.ov ∧ S.nxt = S'.nxt
def restF (r : Rec) (H : List Nat) (S0 : St) (fl : Bool) (all : Array Oper) (left : Nat) (listed : Array Bool) (is : List Nat) (A : List AV) (S : St) (A' : List AV) (S' : St) : Option Out :=
  match is with
  | [] => some (.normal, A', S')
  | j :: js => match r (.one H S0 fl all left listed j A { S with orc := S'.orc, obl := S'.obl }) with
    | some (_, A'', S'') => r (.rest H S0 fl all left listed js A S A' { S' with orc := S''.orc, obl := .ok (sameEnd A'' S'' A' S') :: S''.obl })
    | none => none
def oneF (K : Cfg) (r : Rec) (H : List Nat) (S0 : St) (fl : Bool) (all : Array Oper) (left : Nat) (listed : Array Bool) (i : Nat) (A : List AV) (S : St) : Option Out :=
  match all[i]? with
  | some o => match gd all A S o with
    | some (A1, S1) => match xwanted all A1 o with
      | some true => match pureF K o A1 S1 with
        | some (v, S2) => r (.draw H S0 true all left (listed.setIfInBounds i true) (xput A1 o.dst v) S2)
        | none => match st K.P K.G A1 o S1 with
          | some (v, S2) => r (.draw H S0 fl all left (listed.setIfInBounds i true) (xput A1 o.dst v) S2)
          | none => match H with
            | [] => match stepF K r false o A1 S1 with
              | some (_, A', S') => r (.draw H S0 true all left (listed.setIfInBounds i true) A' S')
              | none => none
            | _ => none
      | some false => r (.draw H S0 fl all left (listed.setIfInBounds i true) (xput A1 o.dst (.tup [])) S1)
      | none => none
    | none => none
  | none => none
def XF (K : Cfg) (r : Rec) : Job → Option Out
  | .code c A S => codeF K r c A S
  | .rounds c A S => roundsF r c A S
  | .call f args S => callF K r f args S
  | .draw H S0 fl all left listed A S => drawF K r H S0 fl all left listed A S
  | .rest H S0 fl all left listed is A S A' S' => restF r H S0 fl all left listed is A S A' S'
  | .one H S0 fl all left listed i A S => oneF K r H S0 fl all left listed i A S
/-- The executor. -/
def X (K : Cfg) (n : Nat) : Job → Option Out := Nat.rec (motive := fun _ => Job → Option Out) (fun _ => none) (fun _ r job => XF K r job) n
end
end Go.Ex
/- The reflective executor, oracle, part 4: operations keep the caller's base. -/
namespace Go.Ex
open Go.RowKit
noncomputable section
section
variable {P : Program} {S : St}
/-- What an operation leaves as it was. -/
def Kp (S S' : St) : Prop := S'.base = S.base ∧ S'.obl = S.obl ∧ S'.orc = S.orc
def NX.st : NX → St
  | .val _ S => S
  | .unit S => S
  | .enter _ _ S => S
  | .round _ _ _ _ S => S
  | .dfr _ S => S
theorem write_base {i off : Nat} {vs : List AV} {S' : St} (hl : S.write i off vs = some S') : Kp S S' := by
  unfold St.write at hl
  (repeat' split at hl) <;> simp at hl
  subst hl; exact ⟨rfl, rfl, rfl⟩
theorem store_base {t : TypeId} {v u : AV} {S' : St} (hl : xStore P t v u S = some S') : Kp S S' := by
  unfold xStore at hl
  split at hl <;> try (simp at hl; done)
  split at hl <;> try (simp at hl; done)
  split at hl <;> try (simp at hl; done)
  exact write_base hl
theorem buildSlice_base {t : TypeId} {len : Nat} {parts : List (Nat × AV)} {u : AV × St} (hl : xBuildSlice P t len parts S = some u) : Kp S u.2 := by
  unfold xBuildSlice at hl
  (repeat' split at hl) <;> simp at hl
  subst hl; exact ⟨rfl, rfl, rfl⟩
theorem makeSlice_base {t : TypeId} {l c : AV} {u : AV × St} (hl : xMakeSlice P t l c S = some u) : Kp S u.2 := by
  unfold xMakeSlice at hl
  (repeat' split at hl) <;> simp at hl
  subst hl; exact ⟨rfl, rfl, rfl⟩
theorem append_base {t xt : TypeId} {s x : AV} {u : AV × St} (hl : xAppend P t xt s x S = some u) : Kp S u.2 := by
  unfold xAppend at hl
  split at hl <;> try (simp at hl; done)
  split at hl <;> try (simp at hl; done)
  split at hl <;> try (simp at hl; done)
  split at hl <;> try (simp at hl; done)
  split at hl <;> try (simp at hl; done)
  · split at hl
    · simp at hl; subst hl; exact ⟨rfl, rfl, rfl⟩
    · split at hl <;> simp at hl
      subst hl; exact ⟨rfl, rfl, rfl⟩
  · split at hl
    · split at hl <;> simp at hl
      rename_i S' hw
      subst hl
      exact write_base hw
    · split at hl <;> try (simp at hl; done)
      split at hl <;> simp at hl
      subst hl; exact ⟨rfl, rfl, rfl⟩
  · split at hl <;> try (simp at hl; done)
    split at hl <;> simp at hl
    subst hl; exact ⟨rfl, rfl, rfl⟩
theorem unsafeStr_base {pt : TypeId} {v n : AV} {u : AV × St} (hl : xUnsafeStr P pt v n S = some u) : Kp S u.2 := by
  unfold xUnsafeStr at hl
  split at hl <;> try (simp at hl; done)
  · split at hl <;> try (simp at hl; done)
    split at hl <;> try (simp at hl; done)
    split at hl <;> simp at hl
    subst hl; exact ⟨rfl, rfl, rfl⟩
  · simp at hl; subst hl; exact ⟨rfl, rfl, rfl⟩
theorem builtin_base {b : Builtin} {ts : Array TypeId} {ty : TypeId} {args : List AV} {u : AV × St} (hl : xBuiltin P b ts ty args S = some u) : Kp S u.2 := by
  unfold xBuiltin at hl
  split at hl <;> try (simp at hl; done)
  · split at hl <;> simp at hl; subst hl; exact ⟨rfl, rfl, rfl⟩
  · split at hl <;> simp at hl; subst hl; exact ⟨rfl, rfl, rfl⟩
  · exact append_base hl
  · split at hl <;> simp at hl; subst hl; exact ⟨rfl, rfl, rfl⟩
  · exact unsafeStr_base hl
  · exact unsafeStr_base hl
  · (repeat' split at hl) <;> simp at hl; subst hl; exact ⟨rfl, rfl, rfl⟩
  · (repeat' split at hl) <;> simp at hl; subst hl; exact ⟨rfl, rfl, rfl⟩
theorem conv_base {src dst : TypeId} {v : AV} {u : AV × St} (hl : xConv P src dst v S = some u) : Kp S u.2 := by
  unfold xConv at hl
  (repeat' split at hl) <;> simp at hl <;> (subst hl; exact ⟨rfl, rfl, rfl⟩)
theorem range_base {t : TypeId} {v : AV} {u : AV × St} (hl : xRange P t v S = some u) : Kp S u.2 := by
  unfold xRange at hl
  split at hl <;> simp at hl
  subst hl; exact ⟨rfl, rfl, rfl⟩
theorem next_base {v : AV} {u : AV × St} (hl : xNext v S = some u) : Kp S u.2 := by
  unfold xNext at hl
  (repeat' split at hl) <;> simp at hl <;> (subst hl; exact ⟨rfl, rfl, rfl⟩)
/-- Handlers keep it too. -/
def EB (E : Ext) : Prop := ∀ (f : FuncId) (args : List AV) (S : St) (n : NX), E f args S = some n → Kp S n.st
variable {G : Nat} {E : Ext}
theorem enter_base (hE : EB E) {f : FuncId} {args : List AV} {n : NX} (hl : xEnter P G E f args S = some n) : Kp S n.st := by
  unfold xEnter at hl
  split at hl
  · simp at hl; subst hl; exact ⟨rfl, rfl, rfl⟩
  · split at hl
    · rename_i n' hn
      simp at hl; subst hl
      exact hE _ _ _ _ hn
    · (repeat' split at hl) <;> simp at hl
      subst hl; exact ⟨rfl, rfl, rfl⟩
theorem call_base (hE : EB E) {A : List AV} {c : Call} {ty : TypeId} {n : NX} (hl : xCall P G E A S c ty = some n) : Kp S n.st := by
  unfold xCall at hl
  split at hl <;> try (simp at hl; done)
  split at hl
  · split at hl <;> simp at hl
    rename_i hb
    subst hl
    exact builtin_base hb
  · split at hl <;> try (simp at hl; done)
    · exact enter_base hE hl
    · split at hl <;> try (simp at hl; done)
      split at hl <;> simp at hl
      subst hl; exact ⟨rfl, rfl, rfl⟩
  · split at hl <;> try (simp at hl; done)
    split at hl <;> try (simp at hl; done)
    exact enter_base hE hl
theorem xop_base (hE : EB E) {A : List AV} {o : Oper} {n : NX} (hl : xop P G E A S o = some n) : Kp S n.st := by
  obtain ⟨dst, op, ty, pos, after, guard⟩ := o
  unfold xop at hl
  simp only at hl
  split at hl <;> try (exact call_base hE hl)
  all_goals try (simp at hl; done)
  all_goals (repeat' split at hl)
  all_goals try (simp at hl; done)
  all_goals (simp at hl; subst hl)
  all_goals first | exact ⟨rfl, rfl, rfl⟩ | (exact store_base (by assumption)) | (exact buildSlice_base (by assumption)) | (exact makeSlice_base (by assumption)) | (exact conv_base (by assumption)) | (exact range_base (by assumption)) | (exact next_base (by assumption))
end
end
end Go.Ex
/- The executor with an oracle, part 5: what its jobs mean. -/
namespace Go.Ex
open Go.RowKit
noncomputable section

def FrS (r : Option Nat) : Fence := { Fence.wide with round := r }

/-! ### States -/
def DL (ε : Env) : List AD → List Deferred → Prop
  | [], [] => True
  | d :: l, x :: xs => DR ε d x ∧ DL ε l xs
  | _, _ => False
theorem DR.mono {ε ε' : Env} (hle : ε.le ε') {d : AD} {x : Deferred} (h : DR ε d x) : DR ε' d x := by
  cases d with
  | idle f n => exact h
  | coll i => obtain ⟨r, h1, h2⟩ := h; exact ⟨r, h1, (hle.d i r h2).1⟩
theorem DL.mono {ε ε' : Env} (hle : ε.le ε') : ∀ {l : List AD} {xs : List Deferred}, DL ε l xs → DL ε' l xs
  | [], [], _ => trivial
  | [], _ :: _, h => h.elim
  | _ :: _, [], h => h.elim
  | d :: l, x :: xs, h => ⟨h.1.mono hle, DL.mono hle h.2⟩
def RN (ε : Env) : Option Nat → Option Nat → Prop
  | none, r => r = none
  | some i, r => ∃ l, r = some l ∧ ε.δ i = some l

/-- The same memory. -/
structure Sm (S S' : St) : Prop where
  ov : S'.ov = S.ov
  base : S'.base = S.base
  nxt : S'.nxt = S.nxt
  dl : S'.dl = S.dl
theorem Sm.refl (S : St) : Sm S S := ⟨rfl, rfl, rfl, rfl⟩
theorem Ahead.sm {S S' : St} (h : Ahead S S') : Sm S S' := ⟨h.ov, h.base, h.nxt, h.dl⟩

section
variable {P : Program} {G B : Nat} {w0 w : World} {ε : Env} {S : St}
theorem Rel.congr (h : Rel G B w0 ε S w) {S' : St} (h1 : S'.ov = S.ov) (h2 : S'.base = S.base) (h3 : S'.nxt = S.nxt) : Rel G B w0 ε S' w :=
  h.sub h3 (by rw [h1, h3]; exact h.bov) (by rw [h2, h3]; exact h.bba) (fun i b hb => by simpa only [St.get, h1, h2] using hb)
theorem RN.mono {ε' : Env} {n : Nat} (_ha : ε.agr n ε') (hle : ε.le ε') {r rr : Option Nat} (h : RN ε r rr) : RN ε' r rr := by
  cases r with
  | none => exact h
  | some i => obtain ⟨l, h1, h2⟩ := h; exact ⟨l, h1, (hle.d i l h2).1⟩

/-- The activation and the world are what the abstract state says. -/
structure In (G B : Nat) (w0 : World) (ε : Env) (S : St) (A : List AV) (a : Act) (w : World) : Prop where
  rel : Rel G B w0 ε S w
  tmps : γs ε A a.tmps.toList
  dl : DL ε S.dl a.defers
theorem In.ar {A : List AV} {a : Act} (h : In G B w0 ε S A a w) : AR ε a.defers A a := ⟨h.tmps, rfl⟩
theorem In.sm {A : List AV} {a : Act} (h : In G B w0 ε S A a w) {S' : St} (hs : Sm S S') : In G B w0 ε S' A a w := ⟨h.rel.congr hs.ov hs.base hs.nxt, h.tmps, by rw [hs.dl]; exact h.dl⟩
theorem In.put {A : List AV} {a : Act} (h : In G B w0 ε S A a w) {v : AV} {y : Value} (hv : γ ε v y) (dst : Option Tmp) : In G B w0 ε S (xput A dst v) (a.put dst y) w := by
  refine ⟨h.rel, ?_, ?_⟩
  · cases dst with
    | none => exact h.tmps
    | some d =>
      simp only [xput, setN_eq, Act.put]
      simpa using γs_set h.tmps d hv
  · cases dst <;> exact h.dl
theorem γ_undef : γ ε (.tup []) undef := by simp only [γ]; exact ⟨[], γs_nil.2 rfl, rfl⟩
theorem In.mono {A : List AV} {a : Act} (h : In G B w0 ε S A a w) {ε' : Env} {S' : St} {w' : World} (ha : ε.agr S.nxt ε') (hr : Rel G B w0 ε' S' w') (hd : S'.dl = S.dl) : In G B w0 ε' S' A a w' :=
  ⟨hr, γs_mono (h.rel.le ha) _ _ h.tmps, by rw [hd]; exact h.dl.mono (h.rel.le ha)⟩

/-- What holds behind: of a state that began in S. -/
def Post (G B : Nat) (w0 : World) (ε : Env) (S : St) (A' : List AV) (S' : St) (a' : Act) (w' : World) : Prop :=
  ∃ ε', ε.agr S.nxt ε' ∧ In G B w0 ε' S' A' a' w' ∧ S.nxt ≤ S'.nxt
theorem Post.refl {A : List AV} {a : Act} (h : In G B w0 ε S A a w) : Post G B w0 ε S A S a w := ⟨ε, Env.agr_refl _ _, h, Nat.le_refl _⟩
theorem Post.trans {ε1 : Env} {S1 S2 : St} {A2 : List AV} {a2 : Act} {w2 : World} (ha : ε.agr S.nxt ε1) (hn : S.nxt ≤ S1.nxt) (h : Post G B w0 ε1 S1 A2 S2 a2 w2) : Post G B w0 ε S A2 S2 a2 w2 := by
  obtain ⟨ε', h1, h2, h3⟩ := h
  exact ⟨ε', Env.agr_trans ha h1 hn, h2, Nat.le_trans hn h3⟩
theorem Post.sm {A' : List AV} {S' S2 : St} {a' : Act} {w' : World} (h : Post G B w0 ε S A' S' a' w') (hs : Sm S' S2) : Post G B w0 ε S A' S2 a' w' := by
  obtain ⟨ε', h1, h2, h3⟩ := h
  exact ⟨ε', h1, h2.sm hs, by rw [hs.nxt]; exact h3⟩
theorem Post.of {S0 : St} {A' : List AV} {S' : St} {a' : Act} {w' : World} (h : Post G B w0 ε S A' S' a' w') (hn : S0.nxt = S.nxt) : Post G B w0 ε S0 A' S' a' w' := by
  obtain ⟨ε', h1, h2, h3⟩ := h
  exact ⟨ε', by rw [hn]; exact h1, h2, by rw [hn]; exact h3⟩
end

/-! ### Pure calls -/
/-- What stands whatever the call's own memory is. -/
structure Stand (G B : Nat) (w0 : World) (ε : Env) (w : World) : Prop where
  below : Below B w0 w
  hB : B ≤ w.heap.size
  gB : G ≤ B
  glob : ∀ g, g < G → ε.δ g = some g
  mem : Mem ε w
  eG : ε.G = G
  k0 : ∀ g, g < G → ε.κ g = 0
/-- More memory stands: of new blocks. -/
structure Env.more (ε ε' : Env) (n : Nat) : Prop where
  d : ε'.δ = ε.δ
  k : ε'.κ = ε.κ
  m : ∀ b o, ε.M b = some o → ε'.M b = some o
  fresh : ∀ b o, ε'.M b = some o → ε.M b = none → n ≤ b
  m0 : ε'.M0 = ε.M0
  g : ε'.G = ε.G
theorem Env.more_refl (ε : Env) (n : Nat) : ε.more ε n := ⟨rfl, rfl, fun _ _ h => h, fun b o h h' => absurd h (by rw [h']; simp), rfl, rfl⟩
theorem Env.more.agr {ε ε' : Env} {n : Nat} (h : ε.more ε' n) (m : Nat) : ε.agr m ε' := ⟨fun _ _ => by rw [h.d, h.k]; exact ⟨rfl, rfl⟩, h.m, h.m0, h.g⟩
theorem Env.more.le {ε ε' : Env} {n : Nat} (h : ε.more ε' n) : ε.le ε' := ⟨fun _ _ hb => by rw [h.d, h.k]; exact ⟨hb, rfl⟩, h.m, h.g⟩
def PPost (ε : Env) (w : World) (v : AV) (e : Ending) (w' : World) : Prop :=
  ∃ y ε', e = .returned y ∧ ε.more ε' w.heap.size ∧ γ ε'.cl v y ∧ Below w.heap.size w w' ∧ Mem ε' w'
def PureOk (P : Program) (G B : Nat) (w0 : World) (f : FuncId) (args : List AV) (v : AV) : Prop :=
  ∀ (ε : Env) (w : World) (xs : List Value), Stand G B w0 ε w → γs ε.cl args xs → Calls P f xs.toArray w (PPost ε w v)
section
variable {P : Program} {G B : Nat} {w0 w : World} {ε : Env} {S : St}
theorem Rel.stand (h : Rel G B w0 ε S w) : Stand G B w0 ε w := ⟨h.below, h.hB, h.gB, h.glob, h.mem, h.eG, h.k0⟩
theorem Rel.more (h : Rel G B w0 ε S w) {ε' : Env} {w' : World} (hm : ε.more ε' w.heap.size) (hb : Below w.heap.size w w') (hmem : Mem ε' w') : Rel G B w0 ε' S w' := by
  have hlt : ∀ i blk, S.get i = some blk → ∀ b, ε.δ i = some b → b < w.heap.size := fun i blk hg b hib => by
    obtain ⟨b', o, h1, h2, _⟩ := h.live i blk hg
    rw [hib] at h1; simp at h1; subst h1
    exact (Array.getElem?_eq_some_iff.1 h2).1
  refine ⟨⟨hb.os.trans h.below.os, hb.tape.trans h.below.tape, hb.output.trans h.below.output, Nat.le_trans h.below.size hb.size, fun k hk => (hb.block k (Nat.lt_of_lt_of_le hk h.hB)).trans (h.below.block k hk)⟩,
    Nat.le_trans h.hB hb.size, h.gB, h.gn, fun g hg => by rw [hm.d]; exact h.glob g hg, fun k hk => by rw [hm.d]; exact h.free k hk, h.bov, h.bba, ?_, ?_, hmem, ?_, ?_, hm.g.trans h.eG, fun g hg => by rw [hm.k]; exact h.k0 g hg⟩
  · intro i blk hg
    obtain ⟨b, o, h1, h2, h3, h4⟩ := h.live i blk hg
    exact ⟨b, o, by rw [hm.d]; exact h1, by rw [hb.block b (hlt i blk hg b h1)]; exact h2, h3.mono hm.le (by rw [hm.k]), h4⟩
  · intro i j bi bj b hi hj h1 h2
    rw [hm.d] at h1 h2
    exact h.inj i j bi bj b hi hj h1 h2
  · intro i blk b hg hown hib
    rw [hm.d] at hib
    cases hM : ε'.M b with
    | none => rfl
    | some o =>
      have h1 := h.apart i blk b hg hown hib
      have h2 := hm.fresh b o hM h1
      have := hlt i blk hg b hib
      omega
  · intro b o hM hlt'
    rw [hm.m0]
    cases hM' : ε.M b with
    | some o' =>
      have := hm.m b o' hM'
      rw [hM] at this
      simp at this
      subst this
      exact h.old b o hM' hlt'
    | none =>
      have h2 := hm.fresh b o hM hM'
      have := h.hB
      omega
end

/-! ### Jobs -/
/-- A call's end. -/
def CPost (G B : Nat) (w0 : World) (ε : Env) (S : St) (v : AV) (S' : St) (e : Ending) (w' : World) : Prop :=
  ∃ y ε', e = .returned y ∧ ε.agr S.nxt ε' ∧ γ ε' v y ∧ Rel G B w0 ε' S' w' ∧ S.nxt ≤ S'.nxt
def CallOk (P : Program) (G B : Nat) (w0 : World) (f : FuncId) (args : List AV) (S : St) (v : AV) (S' : St) : Prop :=
  ∀ (ε : Env) (w : World) (xs : List Value), Rel G B w0 ε S w → γs ε args xs → Calls P f xs.toArray w (CPost G B w0 ε S v S')
def CodeOk (P : Program) (G B : Nat) (w0 : World) (c : Code) (A : List AV) (S : St) (e : XE) (A' : List AV) (S' : St) : Prop :=
  ∀ (ε : Env) (a : Act) (w : World) (r : Option Nat), In G B w0 ε S A a w → RN ε S.rnd r → c.wpIn (FrS r) 0 P (fun e' a' w' => e' = e.out ∧ Post G B w0 ε S A' S' a' w') a w
def RoundsOk (P : Program) (G B : Nat) (w0 : World) (c : Code) (A : List AV) (S : St) (e : XE) (A' : List AV) (S' : St) : Prop :=
  ∃ m, ∀ (ε : Env) (a : Act) (w : World) (r : Option Nat), In G B w0 ε S A a w → RN ε S.rnd r →
    ∀ Q : Exit → Act → World → Prop, (∀ a' w', Post G B w0 ε S A' S' a' w' → Q e.out a' w') → Code.roundsIn (FrS r) 0 P c Q m a w
/-- What is to be shown. -/
def Ob.Ok (P : Program) (G B : Nat) (w0 : World) : Ob → Prop
  | .br b o => b = o
  | .ok p => p
  | .pure f args v => PureOk P G B w0 f args v
  | .call f args base nxt v ov' nxt' => CallOk P G B w0 f args { ov := [], base := base, nxt := nxt } v { ov := ov', base := base, nxt := nxt' }
  | .loop c A ov base nxt dl rnd e A' ov' nxt' => RoundsOk P G B w0 c A { ov := ov, base := base, nxt := nxt, dl := dl, rnd := rnd } e A' { ov := ov', base := base, nxt := nxt', dl := dl, rnd := rnd }
def Oks (P : Program) (G B : Nat) (w0 : World) (l : List Ob) : Prop := ∀ o ∈ l, o.Ok P G B w0
theorem Oks.plain {P : Program} {G B : Nat} {w0 : World} {l : List Ob} (h : Oks P G B w0 l) : plains l := fun o ho => by
  have := h o ho
  cases o <;> first | exact this | trivial
theorem Oks.tail {P : Program} {G B : Nat} {w0 : World} {l m : List Ob} (h : Oks P G B w0 (m ++ l)) : Oks P G B w0 l := fun o ho => h o (List.mem_append_right _ ho)

/-- What a job leaves. -/
structure Gro (S S' : St) : Prop where
  base : S'.base = S.base
  rnd : S'.rnd = S.rnd
  obl : ∃ l, S'.obl = l ++ S.obl
theorem Gro.refl (S : St) : Gro S S := ⟨rfl, rfl, [], rfl⟩
theorem Gro.trans {a b c : St} (h : Gro a b) (h' : Gro b c) : Gro a c := by
  obtain ⟨l, hl⟩ := h.obl
  obtain ⟨m, hm⟩ := h'.obl
  exact ⟨h'.base.trans h.base, h'.rnd.trans h.rnd, m ++ l, by rw [hm, hl, List.append_assoc]⟩
theorem Gro.oks {P : Program} {G B : Nat} {w0 : World} {S S' : St} (h : Gro S S') (ho : Oks P G B w0 S'.obl) : Oks P G B w0 S.obl := by
  obtain ⟨l, hl⟩ := h.obl
  rw [hl] at ho
  exact ho.tail
theorem Ahead.gro {S S' : St} (h : Ahead S S') : Gro S S' := ⟨h.base, h.rnd, h.obl⟩

/-- What a region of drawn order keeps. -/
def SC (ε : Env) (H : List Nat) (w1 w : World) : Prop := Mem ε w ∧ ∀ i, memN i H = true → ∀ b o, ε.δ i = some b → w1.heap[b]? = some o → w.heap[b]? = some o
def DrawOk (K : Cfg) (B : Nat) (w0 : World) (H : List Nat) (S0 : St) (fl : Bool) (all : Array Oper) (A : List AV) (S : St) (A' : List AV) (S' : St)
    (N : Env → World → (Exit → Act → World → Prop) → Act → World → Prop) : Prop :=
  Region.noSelect all = true → apartAll all = true → S.base = S0.base → S.rnd = none → S0.nxt ≤ S.nxt → ∀ (ε0 ε : Env) (w1 : World) (a : Act) (w : World) (Q : Exit → Act → World → Prop), ε0.agr S0.nxt ε → (fl = false → ε.M = ε0.M) → Rel K.G B w0 ε0 S0 w1 → SC ε0 H w1 w → In K.G B w0 ε S A a w →
    (∀ a' w', Post K.G B w0 ε S A' S' a' w' → Q .normal a' w') → (∀ c a w, ¬ Q (.panic c) a w) → N ε0 w1 Q a w

def JobOk (K : Cfg) (B : Nat) (w0 : World) : Job → Out → Prop
  | .code c A S, (e, A', S') => Gro S S' ∧ (Oks K.P K.G B w0 S'.obl → CodeOk K.P K.G B w0 c A S e A' S')
  | .rounds c A S, (e, A', S') => Gro S S' ∧ (Oks K.P K.G B w0 S'.obl → RoundsOk K.P K.G B w0 c A S e A' S')
  | .call f args S, (_, vs, S') => ∃ v, vs = [v] ∧ Gro S S' ∧ S'.dl = S.dl ∧ (Oks K.P K.G B w0 S'.obl → CallOk K.P K.G B w0 f args S v S')
  | .draw H S0 fl all left listed A S, (e, A', S') => e = .normal ∧ Gro S S' ∧ S'.dl = S.dl ∧ (Oks K.P K.G B w0 S'.obl → DrawOk K B w0 H S0 fl all A S A' S' fun ε0 w1 Q a w => wpAnyH K.P .any all Q (SC ε0 H w1) left listed a w)
  | .rest H S0 fl all left listed is A S A1 S1, (e, A', S') => e = .normal ∧ A' = A1 ∧ Gro S1 S' ∧ Sm S1 S' ∧ (Oks K.P K.G B w0 S'.obl → S1.base = S.base → S1.rnd = S.rnd → S1.dl = S.dl → DrawOk K B w0 H S0 fl all A S A' S' fun ε0 w1 Q a w =>
      ∀ i ∈ is, wpOp K.P all Q i (fun a' w' => SC ε0 H w1 w' ∧ wpAnyH K.P .any all Q (SC ε0 H w1) left (listed.setIfInBounds i true) a' w') a w)
  | .one H S0 fl all left listed i A S, (e, A', S') => e = .normal ∧ Gro S S' ∧ S'.dl = S.dl ∧ (Oks K.P K.G B w0 S'.obl → DrawOk K B w0 H S0 fl all A S A' S' fun ε0 w1 Q a w =>
      wpOp K.P all Q i (fun a' w' => SC ε0 H w1 w' ∧ wpAnyH K.P .any all Q (SC ε0 H w1) left (listed.setIfInBounds i true) a' w') a w)
def ROk (K : Cfg) (B : Nat) (w0 : World) (r : Rec) : Prop := ∀ job out, r job = some out → JobOk K B w0 job out
/-- What is asked of the table of the executor. -/
structure KOk (K : Cfg) : Prop where
  ext : EOk K.P K.G K.E
  base : EB K.E
  mixed : K.P.follows .mixedOrders = true
  idle : ∀ p ∈ K.I, ∀ (args : Array Value) (w : World), args.size = p.2 → funcOk K.P p.1 = true ∧ CallsDIn Fence.wide 0 K.P p.1 args .returning w fun e u w' => (∃ v, e = .returned v) ∧ u = .returning ∧ w' = w
end
end Go.Ex
