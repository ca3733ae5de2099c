/- The reflective executor, part 18: calls. -/
import Derived.Test.YtkpdfahdgodajaaGreatDoorRx17
namespace Go.Rx
open Go.RowKit
noncomputable section
section
variable {P : Program} {G B : Nat} {w0 w : World} {ε : Env} {S : St}

/-! ### A function's results -/
def resultOne (tmps : Array Value) : ResultVar → Sem Value
  | .tmp t => pure (tmps.getD t undef)
  | .cell a t => do loadVar t (← asAddr (tmps.getD a undef))
theorem nth_tmps {A : List AV} {tmps : Array Value} (hA : γs ε A = some tmps.toList) (t : Nat) : γ ε (A.getD t (.tup [])) = some (tmps.getD t undef) := by
  cases hg : A[t]? with
  | none =>
    have := γs_get_none hA hg
    have h2 : tmps[t]? = none := by simpa using this
    simp [List.getD, hg, Array.getD_eq_getD_getElem?, h2, γ, γs, undef]
  | some v =>
    obtain ⟨y, h1, h2⟩ := γs_get hA hg
    have h3 : tmps[t]? = some y := by simpa using h1
    simp [List.getD, hg, Array.getD_eq_getD_getElem?, h3, h2]
theorem res_ok (h : Rel G B w0 ε S w) {A : List AV} {tmps : Array Value} (hA : γs ε A = some tmps.toList) : ∀ {l : List ResultVar} {vs : List AV}, xres P A S l = some vs →
    ∃ ys, (l.mapM (resultOne tmps)).run P w = .ok ys w ∧ γs ε vs = some ys
  | [], vs, hl => by
    simp [xres] at hl; subst hl
    exact ⟨[], rfl, rfl⟩
  | .tmp t :: l, vs, hl => by
    simp only [xres] at hl
    split at hl <;> simp at hl
    rename_i us hu
    subst hl
    obtain ⟨ys, h1, h2⟩ := res_ok h hA hu
    refine ⟨tmps.getD t undef :: ys, ?_, γs_cons.2 ⟨_, _, by simpa using nth_tmps hA t, h2, rfl⟩⟩
    simp only [List.mapM_cons, resultOne, Sem.run_bind, Sem.run_pure, Result.andThen_ok, h1]
  | .cell a t :: l, vs, hl => by
    simp only [xres] at hl
    split at hl <;> try (simp at hl; done)
    rename_i v hv
    split at hl <;> simp at hl
    rename_i us hu
    subst hl
    obtain ⟨ys, h1, h2⟩ := res_ok h hA hu
    have hn := nth_tmps hA a
    obtain ⟨i, off, hp⟩ : ∃ i off, A.getD a (.tup []) = .ptr i off := by
      cases hc : A.getD a (.tup []) <;> rw [hc] at hv <;> simp [xLoad] at hv
      exact ⟨_, _, rfl⟩
    rw [hp] at hv hn
    simp only [γ, Option.map_eq_some_iff] at hn
    obtain ⟨b, hb, hn⟩ := hn
    obtain ⟨y, h3, h4⟩ := loadVar_means (P := P) h hv hb
    refine ⟨y :: ys, ?_, γs_cons.2 ⟨_, _, h4, h2, rfl⟩⟩
    simp only [List.mapM_cons, resultOne, Sem.run_bind, ← hn, asAddr, Sem.run_pure, Result.andThen_ok, h3, h1]
theorem packRes_γ {vs : List AV} {ys : List Value} (h : γs ε vs = some ys) : γ ε (packRes vs) = some (if h : ys.toArray.size = 1 then ys.toArray[0] else .tuple ys.toArray) := by
  have hl := γs_length h
  cases vs with
  | nil => rw [γs_nil] at h; subst h; simp [packRes, γ, γs]
  | cons v vs =>
    obtain ⟨y, zs, h1, h2, rfl⟩ := γs_cons.1 h
    cases vs with
    | nil =>
      rw [γs_nil] at h2; subst h2
      simpa [packRes] using h1
    | cons u us =>
      obtain ⟨z, qs, h3, h4, rfl⟩ := γs_cons.1 h2
      simp only [packRes, γ, h, Option.map_some]
      simp
theorem results_ok (h : Rel G B w0 ε S w) {A : List AV} {tmps : Array Value} (hA : γs ε A = some tmps.toList) {fn : Func} {vs : List AV} (hl : xres P A S fn.results.toList = some vs) :
    ∃ y, (results fn tmps).run P w = .ok y w ∧ γ ε (packRes vs) = some y := by
  obtain ⟨ys, h1, h2⟩ := res_ok h hA hl
  refine ⟨_, ?_, packRes_γ h2⟩
  have e : results fn tmps = (do let vs ← fn.results.mapM (resultOne tmps); pure (if h : vs.size = 1 then vs[0] else .tuple vs)) := by
    unfold results
    congr 1
  rw [e]
  simp only [Array.mapM_eq_mapM_toList, map_eq_pure_bind, bind_assoc, Sem.run_bind, Sem.run_pure, Result.andThen_ok, h1, pure_bind]

/-! ### The deferred calls at a function's end -/
theorem Rel.forget (h : Rel G B w0 ε S w) {i b : Nat} {old : ABlk} (hget : S.get i = some old) (hown : old.own = true) (hi : ε.δ i = some b) {w' : World}
    (hw : w'.os = w.os ∧ w'.tape = w.tape ∧ w'.output = w.output ∧ w'.heap.size = w.heap.size) (hother : ∀ k, k ≠ b → w'.heap[k]? = w.heap[k]?) : Rel G B w0 ε (S.put i none) w' := by
  obtain ⟨b', o', h1, h2, h3, h4⟩ := h.live i old hget
  rw [hi] at h1
  simp at h1
  subst h1
  have hBb := h4 hown
  have hlt := h.lt hi
  have old' : ∀ m bm, (S.put i none).get m = some bm → i ≠ m ∧ S.get m = some bm := by
    intro m bm hm
    rw [St.get_put] at hm
    split at hm
    · simp at hm
    · rename_i him; exact ⟨him, hm⟩
  refine ⟨⟨hw.1.trans h.below.os, hw.2.1.trans h.below.tape, hw.2.2.1.trans h.below.output, by rw [hw.2.2.2]; exact h.below.size, fun k hk => (hother k (by omega)).trans (h.below.block k hk)⟩,
    by rw [hw.2.2.2]; exact h.hB, h.gB, h.gn, h.glob, h.free, ?_, h.bba, ?_, ?_⟩
  · exact upd_bnd h.bov hlt _
  · intro j bj hj
    obtain ⟨hij, hj⟩ := old' j bj hj
    obtain ⟨b', o', h5, h6, h7, h8⟩ := h.live j bj hj
    have hne : b' ≠ b := fun e => hij (h.inj i j old bj b hget hj hi (e ▸ h5))
    exact ⟨b', o', h5, by rw [hother b' hne]; exact h6, h7, h8⟩
  · intro j k bj bk c hj hk h5 h6
    exact h.inj j k bj bk c (old' _ _ hj).2 (old' _ _ hk).2 h5 h6
theorem leave_ok {K : Cfg} (hK : KOk K B w0) {fn : Func} {tmps : Array Value} {R : Ending → World → Prop} : ∀ {l : List AD} {ds : List Deferred} {S S' : St} {w : World},
    xLeave K.I l S = some S' → Rel K.G B w0 ε S w → DL ε l ds → (∀ w', Rel K.G B w0 ε S' w' → ∃ v, (results fn tmps).run K.P w' = .ok v w' ∧ R (.returned v) w') →
    LeavesInM Fence.wide 0 K.P fn tmps R ds .returning w
  | [], ds, S, S', w, hl, h, hd, hR => by
    simp [xLeave] at hl; subst hl
    cases ds with
    | nil => exact hR w h
    | cons => exact hd.elim
  | .idle f n :: l, ds, S, S', w, hl, h, hd, hR => by
    simp only [xLeave] at hl
    split at hl <;> try (simp at hl; done)
    rename_i hc
    rw [List.any_eq_true] at hc
    obtain ⟨p, hp, hpe⟩ := hc
    simp only [Bool.and_eq_true, decide_eq_true_eq] at hpe
    obtain ⟨rfl, rfl⟩ := hpe
    cases ds with
    | nil => exact hd.elim
    | cons d ds =>
      obtain ⟨⟨cap, hd1, hd2⟩, hd3⟩ := hd
      obtain ⟨hok, hcall⟩ := hK.idle p hp (d.args ++ cap) w (by simpa using hd2)
      refine ⟨by simp, .inr ⟨fun h0 => by simp [Fence.wide] at h0, .func p.1, cap, p.1, d.args ++ cap, hd1, ?_, fun g _ => trivial, ?_⟩⟩
      · rw [hd1]
        exact callFunc_enter hok _
      · refine CallsDIn.mono hcall fun e u' w' he => ?_
        obtain ⟨⟨v, rfl⟩, rfl, rfl⟩ := he
        exact leave_ok hK hl h hd3 hR
  | .coll i :: l, ds, S, S', w, hl, h, hd, hR => by
    simp only [xLeave] at hl
    split at hl <;> try (simp at hl; done)
    rename_i hget
    cases ds with
    | nil => exact hd.elim
    | cons d ds =>
      obtain ⟨⟨r, hd1, hd2⟩, hd3⟩ := hd
      obtain ⟨b, o, h1, h2, h3, h4⟩ := h.live _ _ hget
      rw [hd2] at h1
      simp at h1
      subst h1
      simp only [BR] at h3
      subst h3
      refine ⟨by simp, .inl ⟨r, _, hd1, run_takeDeferred h2, ?_⟩⟩
      exact leave_ok hK hl (h.forget hget rfl hd2 ⟨rfl, rfl, rfl, by simp⟩ (fun k hk => World.putObj_heap_other hk)) hd3 hR
theorem leave_base {I : List (FuncId × Nat)} : ∀ {l : List AD} {S S' : St}, xLeave I l S = some S' → S'.base = S.base ∧ S'.nxt = S.nxt
  | [], S, S', hl => by simp [xLeave] at hl; subst hl; exact ⟨rfl, rfl⟩
  | .idle f n :: l, S, S', hl => by
    simp only [xLeave] at hl
    split at hl <;> try (simp at hl; done)
    exact leave_base hl
  | .coll i :: l, S, S', hl => by
    simp only [xLeave] at hl
    split at hl <;> try (simp at hl; done)
    have := leave_base (S := S.put i none) hl
    exact this

theorem fact_mem : ∀ {F : Facts} {f : FuncId} {args : List AV} {v : AV}, fact F f args = some v → (f, args, v) ∈ F
  | [], f, args, v, h => by simp [fact] at h
  | (g, as, u) :: l, f, args, v, h => by
    simp only [fact] at h
    split at h
    · rename_i hg
      split at h
      · rename_i he
        simp at h
        subst hg; subst h
        rw [AVs.beq_eq _ _ he]
        exact List.mem_cons_self
      · exact List.mem_cons_of_mem _ (fact_mem h)
    · exact List.mem_cons_of_mem _ (fact_mem h)

theorem call_ok {K : Cfg} {r : Rec} (hK : KOk K B w0) (hr : ROk K B w0 r) {f : FuncId} {args : List AV} {out : Out} (hl : callF K r f args S = some out) : JobOk K B w0 (.call f args S) out := by
  unfold callF at hl
  split at hl
  · rename_i v hf
    simp at hl; subst hl
    refine ⟨v, rfl, rfl, rfl, rfl, fun ε w xs h hx => ?_⟩
    exact hK.facts _ (fact_mem hf) ε S w xs h hx
  · split at hl <;> try (simp at hl; done)
    rename_i fn hfn
    split at hl <;> try (simp at hl; done)
    rename_i c hc
    split at hl <;> try (simp at hl; done)
    rename_i e A1 S1 hne hrun
    unfold callRes at hl
    split at hl <;> try (simp at hl; done)
    rename_i S2 hlv
    split at hl <;> simp at hl
    rename_i vs hvs
    subst hl
    obtain ⟨hb, hrn, hw⟩ := hr _ _ hrun
    obtain ⟨hlb, hln⟩ := leave_base hlv
    refine ⟨packRes vs, rfl, rfl, rfl, rfl, fun ε w xs h hx => ?_⟩
    refine (callsIn_wide (n := 0)).1 (callsIn_of_wp_marks hfn hc trivial ?_)
    have hin : In K.G B w0 ε (into S) (args ++ List.replicate (fn.ntmps - args.length) (.tup [])) { tmps := xs.toArray ++ Array.replicate (fn.ntmps - xs.toArray.size) undef, defers := [] } w := by
      refine ⟨h.into, ?_, trivial⟩
      have hlen := γs_length hx
      simp only [Array.toList_append, Array.toList_replicate, List.size_toArray, hlen]
      exact γs_append hx (γs_replicate γ_undef _)
    refine wpIn_mono (hw ε _ w none hin rfl) fun e' a1 w1 hq => ?_
    obtain ⟨rfl, ε1, ha, hin1, hn⟩ := hq
    have key : LeavesInM Fence.wide 0 K.P fn a1.tmps (CPost K.G B w0 ε S (packRes vs) (back S vs S2)) a1.defers .returning w1 := by
      refine leave_ok hK hlv hin1.rel hin1.dl fun w' h2 => ?_
      obtain ⟨y, h3, h4⟩ := results_ok h2 hin1.tmps hvs
      refine ⟨y, h3, y, ε1, rfl, ha, h4, ?_, ?_⟩
      · exact h2.back (by rw [hlb, hb]; rfl) h.bov h.bba (by rw [hln]; exact hn)
      · show S.nxt ≤ S2.nxt
        rw [hln]; exact hn
    cases e with
    | normal => exact key
    | ret => exact key
    | exit id => exact (hne _ rfl).elim
end
end
end Go.Rx
