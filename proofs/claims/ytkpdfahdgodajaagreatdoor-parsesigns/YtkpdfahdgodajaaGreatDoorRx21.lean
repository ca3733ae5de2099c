/- The reflective executor, part 21: it is sound. -/
import Derived.Test.YtkpdfahdgodajaaGreatDoorRx20
namespace Go.Rx
open Go.RowKit
noncomputable section
section
variable {P : Program} {G B : Nat} {w0 w : World} {ε : Env} {S : St}

theorem St.ext' {S S' : St} (h1 : S.ov = S'.ov) (h2 : S.base = S'.base) (h3 : S.nxt = S'.nxt) (h4 : S.dl = S'.dl) (h5 : S.rnd = S'.rnd) : S = S' := by
  cases S; cases S'; simp_all
theorem apartAll_spec {all : Array Oper} (h : apartAll all = true) {i j : Nat} {x y : Oper} (hx : all[i]? = some x) (hy : all[j]? = some y) (hne : i ≠ j) (h1 : hasEdge y i = false) (h2 : hasEdge x j = false) : x.apart all y = true := by
  simp only [apartAll, List.all_eq_true] at h
  have hxm : (x, i) ∈ all.toList.zipIdx := by
    rw [List.mem_zipIdx_iff_getElem?]; simpa using hx
  have hym : (y, j) ∈ all.toList.zipIdx := by
    rw [List.mem_zipIdx_iff_getElem?]; simpa using hy
  have := h _ hxm _ hym
  simpa [hne, h1, h2] using this
theorem hasEdge_false {o : Oper} {i : Nat} (h : ∀ e ∈ o.after, Region.binds .any e = true → e.on ≠ i) : hasEdge o i = false := by
  simp only [hasEdge, List.any_eq_false, Bool.and_eq_true, decide_eq_true_eq, not_and, Array.mem_toList_iff]
  exact h

theorem draw_ok {K : Cfg} {r : Rec} (_hK : KOk K B w0) (hr : ROk K B w0 r) {S0 : St} {W : List Nat} {all : Array Oper} {left : Nat} {listed : Array Bool} {A : List AV} {out : Out}
    (hl : drawF K r S0 W all left listed A S = some out) : JobOk K B w0 (.draw S0 W all left listed A S) out := by
  unfold drawF at hl
  split at hl
  · rename_i hrdy
    simp at hl; subst hl
    refine ⟨rfl, rfl, rfl, rfl, fun _ _ _ _ _ ε0 ε a w Q _ _ hin hQ _ => ?_⟩
    refine wpAnyH_done (Q := Q) ?_ (hQ a w (Post.refl hin)) left
    refine List.eq_nil_iff_forall_not_mem.2 fun i hi => ?_
    rw [← rdy_ready, hrdy] at hi
    cases hi
  · rename_i i is hrdy
    split at hl <;> try (simp at hl; done)
    rename_i left
    split at hl
    · rename_i j o v hfp
      obtain ⟨e, A', S'⟩ := out
      obtain ⟨he, hb, hrn, hdl, hN⟩ := hr _ _ hl
      obtain ⟨hj, ho, hcase⟩ := firstPure_spec hfp
      refine ⟨he, hb, hrn, hdl, fun hsel hap hbase hrnd hle ε0 ε a w Q ha0 h0 hin hQ hnp => ?_⟩
      obtain ⟨y, hy, hyi⟩ : ∃ y, γ ε v = some y ∧ YieldsIf K.P all (SC K.G B w0 ε0 S0 W) o y a := by
        rcases hcase with ⟨hw, hx | hx⟩ | ⟨hw, rfl⟩
        · obtain ⟨y, h1, h2⟩ := xpure_sound hin.rel hin.ar hx
          exact ⟨y, h2, .inl ⟨by rw [wanted_eq hin.tmps]; exact hw, fun w' _ => h1 w'⟩⟩
        · obtain ⟨y, h1, h2⟩ := held_yields (all := all) h0 ha0 hin hx
          exact ⟨y, h1, .inl ⟨by rw [wanted_eq hin.tmps]; exact hw, h2⟩⟩
        · exact ⟨undef, γ_undef, .inr ⟨by rw [wanted_eq hin.tmps]; exact hw, rfl⟩⟩
      have hjr : j ∈ Region.ready .any all listed := by rw [← rdy_ready, hrdy]; exact hj
      refine wpAnyH_first ho (Region.noSelect_spec hsel) (fun c a' w' h => (hnp _ _ _ h).elim) left listed a w ?_ hjr hyi h0 ?_
      · intro k ok hk hkj hun hno
        refine apartAll_spec hap ho hk (Ne.symm hkj) (hasEdge_false hno) ?_
        refine hasEdge_false fun e he' hbe heq => ?_
        obtain ⟨_, o2, ho2, hall⟩ := mem_ready.1 hjr
        rw [ho] at ho2
        simp at ho2
        subst ho2
        have h1 := hall e he' hbe
        rw [heq] at h1
        rcases Nat.lt_or_ge k listed.size with h' | h'
        · simp [h'] at h1 hun; rw [hun] at h1; cases h1
        · simp [Array.getElem?_eq_none h'] at h1
      · exact hN hsel hap hbase hrnd hle ε0 ε _ w Q ha0 h0 (hin.put hy _) hQ hnp
    · split at hl <;> try (simp at hl; done)
      rename_i e1 A1 S1 h1
      obtain ⟨he1, hb1, hr1, hd1, hN1⟩ := hr _ _ h1
      obtain ⟨e, A', S'⟩ := out
      obtain ⟨he, rfl, rfl, hN2⟩ := hr _ _ hl
      refine ⟨he, hb1, hr1, hd1, fun hsel hap hbase hrnd hle ε0 ε a w Q ha0 h0 hin hQ hnp => ?_⟩
      have hmem : ∀ k, k ∈ Region.ready .any all listed → k = i ∨ k ∈ is := by
        intro k hk
        rw [← rdy_ready, hrdy] at hk
        simpa using hk
      refine ⟨fun h => ?_, fun k hk => ?_⟩
      · have : i ∈ Region.ready .any all listed := by rw [← rdy_ready, hrdy]; exact List.mem_cons_self
        rw [h] at this
        cases this
      · rcases hmem k hk with rfl | hk'
        · exact hN1 hsel hap hbase hrnd hle ε0 ε a w Q ha0 h0 hin hQ hnp
        · exact hN2 hb1 hr1 hd1 hsel hap hbase hrnd hle ε0 ε a w Q ha0 h0 hin hQ hnp k hk'

theorem rest_ok {K : Cfg} {r : Rec} (hr : ROk K B w0 r) {S0 : St} {W : List Nat} {all : Array Oper} {left : Nat} {listed : Array Bool} {is : List Nat} {A A1 : List AV} {S1 : St} {out : Out}
    (hl : restF r S0 W all left listed is A S A1 S1 = some out) : JobOk K B w0 (.rest S0 W all left listed is A S A1 S1) out := by
  unfold restF at hl
  split at hl
  · simp at hl; subst hl
    exact ⟨rfl, rfl, rfl, fun _ _ _ _ _ _ _ _ _ _ _ _ _ _ _ _ _ _ i hi => by cases hi⟩
  · rename_i j js
    split at hl <;> try (simp at hl; done)
    rename_i e2 A2 S2 h2
    split at hl <;> try (simp at hl; done)
    rename_i hc
    simp only [Bool.and_eq_true, decide_eq_true_eq] at hc
    obtain ⟨⟨hc1, hc2⟩, hc3⟩ := hc
    obtain ⟨he2, hb2, hr2, hd2, hN⟩ := hr _ _ h2
    obtain ⟨e, A', S'⟩ := out
    obtain ⟨he, hA, hS, hN2⟩ := hr _ _ hl
    refine ⟨he, hA, hS, fun hb hrn hd hsel hap hbase hrnd hle ε0 ε a w Q ha0 h0 hin hQ hnp i hi => ?_⟩
    rcases List.mem_cons.1 hi with rfl | hi
    · have hS2 : S2 = S' := by
        rw [hS]
        exact St.ext' (Bl.beq_eq hc2) (hb2.trans hb.symm) hc3 (hd2.trans hd.symm) (hr2.trans hrn.symm)
      have hA2 : A2 = A' := by rw [hA]; exact AVs.beq_eq _ _ hc1
      subst hS2; subst hA2
      exact hN hsel hap hbase hrnd hle ε0 ε a w Q ha0 h0 hin hQ hnp
    · exact hN2 hb hrn hd hsel hap hbase hrnd hle ε0 ε a w Q ha0 h0 hin hQ hnp i hi

theorem one_ok {K : Cfg} {r : Rec} (hK : KOk K B w0) (hr : ROk K B w0 r) {S0 : St} {W : List Nat} {all : Array Oper} {left : Nat} {listed : Array Bool} {i : Nat} {A : List AV} {out : Out}
    (hl : oneF K r S0 W all left listed i A S = some out) : JobOk K B w0 (.one S0 W all left listed i A S) out := by
  unfold oneF at hl
  split at hl <;> try (simp at hl; done)
  rename_i o ho
  split at hl
  · rename_i hw
    split at hl <;> try (simp at hl; done)
    rename_i e1 A1 S1 hs
    split at hl <;> try (simp at hl; done)
    rename_i hag
    obtain ⟨e, A', S'⟩ := out
    obtain ⟨he, hb2, hr2, hd2, hN⟩ := hr _ _ hl
    obtain ⟨rfl, hb1, hr1, hd1, hd⟩ := step_ok hK hr hs
    refine ⟨he, hb2.trans hb1, hr2.trans hr1, hd2.trans (hd1 rfl), fun hsel hap hbase hrnd hle ε0 ε a w Q ha0 h0 hin hQ hnp => ?_⟩
    have hw' : Region.wanted o (yielded all a.tmps) = true := by rw [wanted_eq hin.tmps]; exact hw
    unfold wpOp
    simp only [ho, hw', if_true]
    refine .inl ((hd ε a w none hin (by rw [hrnd]; rfl)).wp fun a1 w1 hp => ?_)
    obtain ⟨ε1, h1, h2, h3⟩ := hp
    have ha1 : ε0.agr S0.nxt ε1 := Env.agr_trans ha0 h1 hle
    have h0' := agree_rel h0 ha1 h2.rel (hb1.trans hbase) hag
    exact ⟨h0', hN hsel hap (hb1.trans hbase) (hr1.trans hrnd) (Nat.le_trans hle h3) ε0 ε1 a1 w1 Q ha1 h0' h2 (fun a' w' hp' => hQ a' w' (hp'.trans h1 h3)) hnp⟩
  · rename_i hw
    obtain ⟨e, A', S'⟩ := out
    obtain ⟨he, hb2, hr2, hd2, hN⟩ := hr _ _ hl
    refine ⟨he, hb2, hr2, hd2, fun hsel hap hbase hrnd hle ε0 ε a w Q ha0 h0 hin hQ hnp => ?_⟩
    have hw' : Region.wanted o (yielded all a.tmps) = false := by rw [wanted_eq hin.tmps]; exact hw
    unfold wpOp
    simp only [ho, hw', Bool.false_eq_true, if_false]
    exact ⟨h0, hN hsel hap hbase hrnd hle ε0 ε _ w Q ha0 h0 (hin.put γ_undef _) hQ hnp⟩

theorem kill_rel (h : Rel G B w0 ε S w) (W : List Nat) : Rel G B w0 ε (kill W S) w := by
  refine h.sub rfl ?_ ?_ ?_
  · intro p hp
    simp only [kill, killB, List.mem_map] at hp
    obtain ⟨q, hq, rfl⟩ := hp
    exact h.bov q hq
  · intro p hp
    simp only [kill, killB, List.mem_map] at hp
    obtain ⟨q, hq, rfl⟩ := hp
    exact h.bba q hq
  · intro i b hb
    rw [get_kill] at hb
    split at hb
    · simp at hb
    · exact hb

theorem code_ok {K : Cfg} {r : Rec} (hK : KOk K B w0) (hr : ROk K B w0 r) {c : Code} {A : List AV} {out : Out} (hl : codeF K r c A S = some out) : JobOk K B w0 (.code c A S) out := by
  obtain ⟨e, A', S'⟩ := out
  unfold codeF at hl
  split at hl <;> try (simp at hl; done)
  · simp at hl; obtain ⟨rfl, rfl, rfl⟩ := hl
    exact ⟨rfl, rfl, fun ε a w rr h _ => wpIn_skip ⟨rfl, Post.refl h⟩⟩
  · simp at hl; obtain ⟨rfl, rfl, rfl⟩ := hl
    exact ⟨rfl, rfl, fun ε a w rr h _ => wpIn_label ⟨rfl, Post.refl h⟩⟩
  · rename_i x y
    unfold codeSeq at hl
    split at hl
    · rename_i A1 S1 h1
      obtain ⟨hb1, hr1, hw1⟩ := hr _ _ h1
      obtain ⟨hb2, hr2, hw2⟩ := hr _ _ hl
      refine ⟨hb2.trans hb1, hr2.trans hr1, fun ε a w rr h hrr => wpIn_seq ?_⟩
      refine wpIn_mono (hw1 ε a w rr h hrr) fun e' a1 w1 hq => ?_
      obtain ⟨rfl, ε1, ha, hin, hn⟩ := hq
      refine wpIn_mono (hw2 ε1 a1 w1 rr hin (by rw [hr1]; exact hrr.mono ha (h.rel.le ha))) fun e' a2 w2 hq => ?_
      exact ⟨hq.1, hq.2.trans ha hn⟩
    · rename_i hne
      obtain ⟨hb1, hr1, hw1⟩ := hr _ _ hl
      have hen : e ≠ .normal := by rintro rfl; exact hne _ _ hl
      refine ⟨hb1, hr1, fun ε a w rr h hrr => wpIn_seq ?_⟩
      refine wpIn_mono (hw1 ε a w rr h hrr) fun e' a1 w1 hq => ?_
      obtain ⟨rfl, hp⟩ := hq
      exact then_of_ne hen ⟨rfl, hp⟩
  · rename_i c x y
    unfold codeCond at hl
    split at hl <;> try (simp at hl; done)
    · rename_i hev
      obtain ⟨hb1, hr1, hw1⟩ := hr _ _ hl
      refine ⟨hb1, hr1, fun ε a w rr h hrr => ?_⟩
      have := ev_γ h.rel h.ar hev
      simp only [γ, Option.some.injEq] at this
      exact wpIn_cond_true this.symm (hw1 ε a w rr h hrr)
    · rename_i hev
      obtain ⟨hb1, hr1, hw1⟩ := hr _ _ hl
      refine ⟨hb1, hr1, fun ε a w rr h hrr => ?_⟩
      have := ev_γ h.rel h.ar hev
      simp only [γ, Option.some.injEq] at this
      exact wpIn_cond_false this.symm (hw1 ε a w rr h hrr)
  · rename_i id body
    unfold codeBlock at hl
    split at hl
    · rename_i id' A1 S1 h1
      simp only [Option.some.injEq, Prod.mk.injEq] at hl
      obtain ⟨rfl, rfl, rfl⟩ := hl
      obtain ⟨hb1, hr1, hw1⟩ := hr _ _ h1
      refine ⟨hb1, hr1, fun ε a w rr h hrr => wpIn_block ?_⟩
      refine wpIn_mono (hw1 ε a w rr h hrr) fun e' a1 w1 hq => ?_
      obtain ⟨rfl, hp⟩ := hq
      simp only [XE.out, Exit.inBlock]
      split
      · rename_i hid; simp [hid, hp]
      · rename_i hid; simp [hid, hp]
    · rename_i hne
      obtain ⟨hb1, hr1, hw1⟩ := hr _ _ hl
      refine ⟨hb1, hr1, fun ε a w rr h hrr => wpIn_block ?_⟩
      refine wpIn_mono (hw1 ε a w rr h hrr) fun e' a1 w1 hq => ?_
      obtain ⟨rfl, hp⟩ := hq
      cases e with
      | normal => exact ⟨rfl, hp⟩
      | ret => exact ⟨rfl, hp⟩
      | exit id' => exact (hne _ _ _ hl).elim
  · obtain ⟨hb1, hr1, m, hw1⟩ := hr _ _ hl
    exact ⟨hb1, hr1, fun ε a w rr h hrr => wpIn_loop_rounds m (hw1 ε a w rr h hrr _ fun a' w' hp => ⟨rfl, hp⟩)⟩
  · rename_i body
    split at hl <;> try (simp at hl; done)
    rename_i hrnd
    obtain ⟨hb1, hr1, hw1⟩ := hr _ _ hl
    refine ⟨hb1, hr1, fun ε a w rr h hrr => ?_⟩
    have hrr' := hrr
    rw [hrnd] at hrr'
    have hrr' : rr = none := hrr'
    subst hrr'
    refine (wpIn_wide (n := 0)).2 (wp_scope_straight ((wpIn_wide (n := 0)).1 ?_))
    refine wpIn_mono (hw1 ε a w none h hrr) fun e' a1 w1 hq => ?_
    obtain ⟨rfl, hp⟩ := hq
    cases e <;> exact ⟨rfl, hp⟩
  · simp at hl; obtain ⟨rfl, rfl, rfl⟩ := hl
    exact ⟨rfl, rfl, fun ε a w rr h _ => wpIn_exit ⟨rfl, Post.refl h⟩⟩
  · simp at hl; obtain ⟨rfl, rfl, rfl⟩ := hl
    exact ⟨rfl, rfl, fun ε a w rr h _ => wpIn_ret ⟨rfl, Post.refl h⟩⟩
  · obtain ⟨rfl, hb1, hr1, hw1⟩ := ops_ok hK hr hl
    exact ⟨hb1, hr1, fun ε a w rr h hrr => wpIn_region_list (hw1 ε a w rr h hrr _ fun a' w' hp => ⟨rfl, hp⟩)⟩
  · rename_i id ops
    unfold codeDraw at hl
    split at hl <;> try (simp at hl; done)
    rename_i hrnd hc
    simp only [Bool.and_eq_true] at hc
    split at hl <;> try (simp at hl; done)
    rename_i e1 A1 S1 hops
    obtain ⟨rfl, hb1, hr1, _, hN⟩ := hr _ _ hl
    refine ⟨hb1, hr1, fun ε a w rr h hrr => ?_⟩
    rw [hrnd] at hrr
    have hrr : rr = none := hrr
    subst hrr
    refine (wpIn_wide (n := 0)).2 (wp_region_held (S := SC K.G B w0 ε S (written S S1)) hK.mixed ?_)
    have hin : In K.G B w0 ε S A a w.drew := ⟨h.rel.drew, h.tmps, h.dl⟩
    exact hN hc.1 hc.2 rfl hrnd (Nat.le_refl _) ε ε a w.drew _ (Env.agr_refl _ _) (kill_rel hin.rel _) hin (fun a' w' hp => ⟨rfl, hp⟩) (fun c a w hq => by cases hq.1)
  · exact range_ok hK hr hl

/-- **The executor is sound.** -/
theorem X_ok {K : Cfg} (hK : KOk K B w0) : ∀ n, ROk K B w0 (X K n)
  | 0, job, out, h => by simp [X] at h
  | n + 1, job, out, h => by
    have hr := X_ok hK n
    have h : XF K (X K n) job = some out := h
    cases job with
    | code c A S => exact code_ok hK hr h
    | rounds c A S => exact rounds_ok hr h
    | call f args S => exact call_ok hK hr h
    | draw => exact draw_ok hK hr h
    | rest => exact rest_ok hr h
    | one => exact one_ok hK hr h
end
end
end Go.Rx
