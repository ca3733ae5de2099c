/- The reflective executor, part 19: code. -/
import Derived.Test.YtkpdfahdgodajaaGreatDoorRx18
import Derived.Scope
namespace Go.Rx
open Go.RowKit
noncomputable section
section
variable {P : Program} {G B : Nat} {w0 w : World} {ε : Env} {S : St}

theorem XE.ne_normal {e : XE} (h : e ≠ .normal) : e.out ≠ .normal := by cases e <;> simp [XE.out] at *
theorem then_of_ne {K : Act → World → Prop} {Q : Exit → Act → World → Prop} {e : XE} (h : e ≠ .normal) {a : Act} {w : World} (hq : Q e.out a w) : Exit.then K Q e.out a w := by
  cases e <;> first | exact absurd rfl h | exact hq

theorem range_ok {K : Cfg} {r : Rec} (hK : KOk K B w0) (hr : ROk K B w0 r) {g : Operand} {ps : Array Tmp} {assign body : Code} {A : List AV} {out : Out} (hl : codeRange K r g ps assign body A S = some out) :
    JobOk K B w0 (.code (.rangeFunc g ps assign body) A S) out := by
  unfold codeRange at hl
  split at hl <;> try (simp at hl; done)
  rename_i f first captured hrnd hev
  split at hl <;> try (simp at hl; done)
  rename_i hfo
  split at hl <;> try (simp at hl; done)
  rename_i e1 vs1 S2 hc
  obtain ⟨v, rfl, hb2, hr2, hd2, hcall⟩ := hr _ _ hc
  unfold codeRange2 at hl
  split at hl <;> try (simp at hl; done)
  rename_i st pend hnb hlo
  split at hl <;> try (simp at hl; done)
  rename_i S3 hs3
  have h3 : S3.base = S2.base ∧ S3.rnd = S2.rnd ∧ S3.nxt = S2.nxt := by
    unfold lpSet at hs3
    split at hs3 <;> simp at hs3
    subst hs3
    exact ⟨rfl, rfl, rfl⟩
  have hbusy : st ≠ .busy := by rintro rfl; exact hnb rfl
  have hb3 : S3.base = S.base := h3.1.trans hb2
  have hr3 : S3.rnd = S.rnd := h3.2.1.trans hr2
  have main : ∀ (ε : Env) (a : Act) (w : World) (rr : Option Nat), In K.G B w0 ε S A a w → RN ε S.rnd rr → ∀ Q : Exit → Act → World → Prop,
      (∀ (ε3 : Env) (a' : Act) (w' : World), ε.agr S.nxt ε3 → S.nxt ≤ S3.nxt → In K.G B w0 ε3 { S3 with dl := .coll S.nxt :: S.dl } A a' w' →
        match pend with
        | none => Q .normal a' w'
        | some c => c.wpIn (FrS none) 0 K.P Q a' w') →
      (Code.rangeFunc g ps assign body).wpIn (FrS rr) 0 K.P Q a w := by
    intro ε a w rr h hrr Q hQ
    rw [hrnd] at hrr
    have hrr : rr = none := hrr
    subst hrr
    refine wpIn_rangeFunc fun fn _ => ?_
    have hfv := ev_γ h.rel h.ar hev
    simp only [γ, Option.bind_eq_some_iff, Option.map_eq_some_iff] at hfv
    obtain ⟨xs, h1, ys, h2, hfe⟩ := hfv
    have hrel1 := h.rel.alloc .dfr (.deferred (some [])) 0 (fun _ _ _ => rfl)
    have ag1 := Env.agr_set ε S.nxt w.heap.size 0
    have hD : (ε.set S.nxt w.heap.size 0).δ S.nxt = some w.heap.size := by simp [Env.set]
    have hrel2 := hrel1.alloc (.lp .ready none A ps assign body S.nxt)
      (.loop { state := .ready, pending := none, fn := fn, tmps := a.tmps, params := ps, assign := assign, body := body, defers := w.heap.size }) 0 (fun ε' ha _ => by
        have hD' : ε'.δ S.nxt = some w.heap.size := (hrel1.le ha S.nxt _ hD).1
        exact ⟨fn, a.tmps.toList, w.heap.size, γs_mono (hrel1.le ha) _ _ (γs_mono (h.rel.le ag1) _ _ h.tmps), hD', by simp⟩)
    generalize hε2 : (ε.set S.nxt w.heap.size 0).set (S.new .dfr).nxt (w.alloc (.deferred (some []))).heap.size 0 = ε2 at hrel2
    have ag2 : (ε.set S.nxt w.heap.size 0).agr (S.nxt + 1) ε2 := by rw [← hε2]; exact Env.agr_set _ _ _ _
    have agT : ε.agr S.nxt ε2 := Env.agr_trans ag1 ag2 (Nat.le_succ _)
    have hL : ε2.δ (S.nxt + 1) = some (w.heap.size + 1) := by
      rw [← hε2]
      simp [Env.set, St.nxt_new]
    have hD2 : ε2.δ S.nxt = some w.heap.size := by rw [(ag2 S.nxt (Nat.lt_succ_self _)).1, hD]
    have hargs : γs ε2 (first ++ [.yld (S.nxt + 1)] ++ captured) = some (xs ++ [Value.func (.yield (w.heap.size + 1)) #[] #[]] ++ ys) :=
      γs_append (γs_append (γs_mono (h.rel.le agT) _ _ h1) (γs_cons.2 ⟨_, [], by simp [γ, hL], rfl, rfl⟩)) (γs_mono (h.rel.le agT) _ _ h2)
    have hc2 := hcall ε2 _ _ hrel2 hargs
    refine ⟨w.heap.size + 1, _, _, { target := .fn (.func f) ys.toArray, args := xs.toArray ++ #[Value.func (.yield (w.heap.size + 1)) #[] #[]] }, (w.alloc (.deferred (some []))).alloc (.loop { state := .ready, pending := none, fn := fn, tmps := a.tmps, params := ps, assign := assign, body := body, defers := w.heap.size }), f, (xs ++ [Value.func (.yield (w.heap.size + 1)) #[] #[]] ++ ys).toArray, (w.alloc (.deferred (some []))).alloc (.loop { state := .ready, pending := none, fn := fn, tmps := a.tmps, params := ps, assign := assign, body := body, defers := w.heap.size }),
      run_enterLoop_outer fn a.tmps ps assign body, ?_, fun f' _ => trivial, ?_, fun h0 => by simp [FrS, Fence.wide] at h0, ?_⟩
    · simp only [resolve, ← hfe, Deferred.ofValue, Sem.run_pure]
      simp [Act.eval]
    · have e : (xs.toArray ++ #[Value.func (.yield (w.heap.size + 1)) #[] #[]]) ++ ys.toArray = (xs ++ [Value.func (.yield (w.heap.size + 1)) #[] #[]] ++ ys).toArray := by simp
      show (callFunc f ((xs.toArray ++ #[Value.func (.yield (w.heap.size + 1)) #[] #[]]) ++ ys.toArray)).run K.P _ = _
      rw [e]
      exact callFunc_enter hfo _
    · refine CallsIn.mono ((callsIn_wide (n := 0 - 1)).2 hc2) fun e w3 he => ?_
      obtain ⟨y, ε3, rfl, h5, h6, h7, h8⟩ := he
      have h5' : ε2.agr (S.nxt + 2) ε3 := h5
      have h8' : S.nxt + 2 ≤ S2.nxt := h8
      obtain ⟨l, rc, h9, h10, h11, h12, h13, h14, h15, h16, h17⟩ := lpSet_ok h7 hs3 hlo
      have hL3 : ε3.δ (S.nxt + 1) = some (w.heap.size + 1) := (h5' (S.nxt + 1) (by omega)).1.trans hL
      have hD3 : ε3.δ S.nxt = some w.heap.size := (h5' S.nxt (by omega)).1.trans hD2
      rw [hL3] at h9
      simp at h9
      subst h9
      have hend := run_endLoop (P := K.P) h10 (by rw [h11]; exact hbusy)
      have e3 : ({ rc with state := .exhausted, pending := pend } : Loop) = { rc with state := .exhausted } := by rw [← h12]
      rw [e3] at h13
      have ag3 : ε.agr S.nxt ε3 := Env.agr_trans agT h5' (by omega)
      have hin : In K.G B w0 ε3 { S3 with dl := .coll S.nxt :: S.dl } A { a with defers := [{ target := .collected w.heap.size, args := #[] }] ++ a.defers } (w3.putObj (w.heap.size + 1) (.loop { rc with state := .exhausted })) :=
        ⟨h13.congr rfl rfl rfl, γs_mono (h.rel.le ag3) _ _ h.tmps, ⟨⟨_, rfl, hD3⟩, h.dl.mono (h.rel.le ag3)⟩⟩
      have hq := hQ ε3 _ _ ag3 (by rw [h14]; omega) hin
      refine ⟨pend, _, by rw [← h12]; exact hend, ?_⟩
      cases pend with
      | none => exact hq
      | some c => exact hq
  split at hl
  · simp only [Option.some.injEq] at hl
    subst hl
    refine ⟨hb3, hr3, fun ε a w rr h hrr => main ε a w rr h hrr _ ?_⟩
    intro ε3 a' w' ha hn hin
    exact ⟨rfl, ε3, ha, hin, hn⟩
  · rename_i c
    obtain ⟨e, A', S'⟩ := out
    obtain ⟨hb4, hr4, hw4⟩ := hr _ _ hl
    refine ⟨hb4.trans hb3, hr4.trans hr3, fun ε a w rr h hrr => main ε a w rr h hrr _ ?_⟩
    intro ε3 a' w' ha hn hin
    refine wpIn_mono (hw4 ε3 a' w' none hin ?_) fun e' a2 w2 hq => ?_
    · show RN ε3 S3.rnd none
      rw [hr3, hrnd]; rfl
    · exact ⟨hq.1, hq.2.trans ha hn⟩

theorem rounds_ok {K : Cfg} {r : Rec} (hr : ROk K B w0 r) {c : Code} {A : List AV} {out : Out} (hl : roundsF r c (r (.code c A S)) = some out) : JobOk K B w0 (.rounds c A S) out := by
  unfold roundsF at hl
  obtain ⟨e, A', S'⟩ := out
  split at hl
  · rename_i A1 S1 h1
    obtain ⟨hb1, hr1, hw1⟩ := hr _ _ h1
    obtain ⟨hb2, hr2, m, hw2⟩ := hr _ _ hl
    refine ⟨hb2.trans hb1, hr2.trans hr1, m + 1, fun ε a w rr h hrr Q hQ => ?_⟩
    show c.wpIn (FrS rr) 0 K.P (Exit.then (Code.roundsIn (FrS rr) 0 K.P c Q m) Q) a w
    refine wpIn_mono (hw1 ε a w rr h hrr) fun e' a1 w1 hq => ?_
    obtain ⟨rfl, ε1, ha, hin, hn⟩ := hq
    refine hw2 ε1 a1 w1 rr hin (by rw [hr1]; exact hrr.mono ha (h.rel.le ha)) Q fun a' w' hp => hQ a' w' (hp.trans ha hn)
  · rename_i hne
    obtain ⟨hb1, hr1, hw1⟩ := hr _ _ hl
    have hen : e ≠ .normal := by rintro rfl; exact hne _ _ hl
    refine ⟨hb1, hr1, 1, fun ε a w rr h hrr Q hQ => ?_⟩
    show c.wpIn (FrS rr) 0 K.P (Exit.then (Code.roundsIn (FrS rr) 0 K.P c Q 0) Q) a w
    refine wpIn_mono (hw1 ε a w rr h hrr) fun e' a1 w1 hq => ?_
    obtain ⟨rfl, hp⟩ := hq
    exact then_of_ne hen (hQ _ _ hp)
end
end
end Go.Rx
