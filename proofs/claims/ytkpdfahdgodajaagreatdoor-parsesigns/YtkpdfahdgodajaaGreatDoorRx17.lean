/- The reflective executor, part 17: one operation, with the calls and the rounds that it makes; a list of operations. -/
import Derived.Test.YtkpdfahdgodajaaGreatDoorRx16
namespace Go.Rx
open Go.RowKit
noncomputable section
section
variable {P : Program} {G B : Nat} {w0 w : World} {ε : Env} {S : St}

theorem lpSet_ok (h : Rel G B w0 ε S w) {i : Nat} {st st0 : LoopState} {pend pend0 : Option Code} {S' : St} (hl : lpSet S i st pend = some S') (h0 : loopOf S i = some (st0, pend0)) :
    ∃ l r, ε.δ i = some l ∧ w.heap[l]? = some (.loop r) ∧ r.state = st0 ∧ r.pending = pend0 ∧ Rel G B w0 ε S' (w.putObj l (.loop { r with state := st, pending := pend })) ∧
      S'.nxt = S.nxt ∧ S'.base = S.base ∧ S'.rnd = S.rnd ∧ S'.dl = S.dl := by
  unfold lpSet at hl
  unfold loopOf at h0
  split at hl <;> simp at hl
  rename_i st1 pend1 A ps assign body D hget
  rw [hget] at h0
  simp at h0
  obtain ⟨rfl, rfl⟩ := h0
  obtain ⟨b, o, h1, h2, ⟨fn, xs, d, h3, h4, rfl⟩, h5⟩ := h.live _ _ hget
  subst hl
  have hlt := (Array.getElem?_eq_some_iff.1 h2).1
  refine ⟨b, _, h1, h2, rfl, rfl, ?_, rfl, rfl, rfl, rfl⟩
  exact h.setBlk hget rfl h1 ⟨rfl, rfl, rfl, by simp⟩ (fun k hk => World.putObj_heap_other hk) (World.putObj_heap_same hlt) ⟨fn, xs, d, h3, h4, rfl⟩
theorem loopOf_lpSet {i : Nat} {st : LoopState} {pend : Option Code} {S' : St} (hl : lpSet S i st pend = some S') : ∃ x, loopOf S i = some x := by
  unfold lpSet at hl
  unfold loopOf
  split at hl <;> simp at hl
  exact ⟨_, rfl⟩

theorem step_ok {K : Cfg} {r : Rec} (hK : KOk K B w0) (hr : ROk K B w0 r) {rd : Bool} {o : Oper} {A A' : List AV} {S' : St} {e : XE} (hl : stepF K r rd o A S = some (e, A', S')) :
    e = .normal ∧ S'.base = S.base ∧ S'.rnd = S.rnd ∧ (rd = false → S'.dl = S.dl) ∧ ∀ (ε : Env) (a : Act) (w : World) (rr : Option Nat), In K.G B w0 ε S A a w → RN ε S.rnd rr →
      Does K.P rd rr o a w (Post K.G B w0 ε S A' S') := by
  unfold stepF at hl
  split at hl <;> try (simp at hl; done)
  rename_i n hn
  have hbase := xop_base hK.base hn
  have means : ∀ (ε : Env) (a : Act) (w : World), In K.G B w0 ε S A a w → Means K.G B w0 ε S ((execOp a.eval o).run K.P w) n := fun ε a w h => xop_means h.rel hK.ext h.ar hn
  cases n with
  | val v S1 =>
    simp only [stepN, Option.some.injEq, Prod.mk.injEq] at hl
    obtain ⟨rfl, rfl, rfl⟩ := hl
    refine ⟨rfl, hbase, rfl, fun _ => rfl, fun ε a w rr h _ => ?_⟩
    obtain ⟨x, w', ε', h1, h2, h3, h4, h5⟩ := means ε a w h
    unfold Does
    rw [h1]
    exact ⟨ε', h2, (h.mono (S' := S.of S1) h2 (h4.congr rfl rfl rfl) rfl).put h3 _, h5⟩
  | unit S1 =>
    simp only [stepN, Option.some.injEq, Prod.mk.injEq] at hl
    obtain ⟨rfl, rfl, rfl⟩ := hl
    refine ⟨rfl, hbase, rfl, fun _ => rfl, fun ε a w rr h _ => ?_⟩
    obtain ⟨w', ε', h1, h2, h4, h5⟩ := means ε a w h
    unfold Does
    rw [h1]
    exact ⟨ε', h2, (h.mono (S' := S.of S1) h2 (h4.congr rfl rfl rfl) rfl).put γ_undef _, h5⟩
  | enter f args S1 =>
    simp only [stepN] at hl
    split at hl <;> simp at hl
    rename_i e' v S2 hc
    obtain ⟨rfl, rfl, rfl⟩ := hl
    obtain ⟨v', hv, hb, hrn, hdl, hcall⟩ := hr _ _ hc
    simp at hv
    subst hv
    refine ⟨rfl, hb.trans hbase, hrn, fun _ => hdl, fun ε a w rr h _ => ?_⟩
    obtain ⟨xs, w', ε', h1, h2, h3, h4, h5⟩ := means ε a w h
    unfold Does
    rw [h1]
    refine Calls.mono (hcall ε' w' xs (h4.congr rfl rfl rfl) h3) fun e w'' he => ?_
    obtain ⟨y, ε2, h6, h7, h8, h9, h10⟩ := he
    have h7' : ε'.agr S1.nxt ε2 := h7
    have h10' : S1.nxt ≤ S2.nxt := h10
    refine ⟨y, h6, ε2, Env.agr_trans h2 h7' h5, (h.mono (Env.agr_trans h2 h7' h5) h9 hdl).put h8 _, Nat.le_trans h5 h10'⟩
  | dfr d S1 =>
    simp only [stepN] at hl
    split at hl <;> simp at hl
    rename_i hrnd
    obtain ⟨rfl, rfl, rfl⟩ := hl
    refine ⟨rfl, hbase, rfl, fun h => by simp at h, fun ε a w rr h hrr => ?_⟩
    obtain ⟨x, w', h1, h2, h4, h5⟩ := means ε a w h
    unfold Does
    rw [h1]
    rw [hrnd] at hrr
    refine ⟨rfl, hrr, ε, Env.agr_refl _ _, ?_, h5⟩
    have hi : In K.G B w0 ε { S.of S1 with dl := d :: S.dl } A { a with defers := x :: a.defers } w' := ⟨h4.congr rfl rfl rfl, h.tmps, ⟨h2, h.dl⟩⟩
    exact hi.put γ_undef _
  | round i A1 assign body S1 =>
    simp only [stepN] at hl
    split at hl <;> try (simp at hl; done)
    rename_i A2 S2 hc1
    split at hl <;> try (simp at hl; done)
    rename_i pend hlo
    split at hl <;> try (simp at hl; done)
    rename_i S3 hs3
    split at hl <;> try (simp at hl; done)
    rename_i e4 A4 S4 hc2
    split at hl <;> simp at hl
    rename_i S5 hs5
    obtain ⟨rfl, rfl, rfl⟩ := hl
    obtain ⟨hb2, hr2, hw2⟩ := hr _ _ hc1
    obtain ⟨hb4, hr4, hw4⟩ := hr _ _ hc2
    have hb3 : S3.base = S2.base ∧ S3.rnd = S2.rnd ∧ S3.nxt = S2.nxt := by
      unfold lpSet at hs3
      split at hs3 <;> simp at hs3
      subst hs3
      exact ⟨rfl, rfl, rfl⟩
    have hb5 : S5.base = S4.base := by
      unfold lpSet at hs5
      split at hs5 <;> simp at hs5
      subst hs5
      rfl
    refine ⟨rfl, by simp only [St.of]; rw [hb5, hb4, hb3.1, hb2]; exact hbase, rfl, fun h => by simp at h, fun ε a w rr h hrr => ?_⟩
    obtain ⟨l, fn, xs, w', ε1, h1, h2, h3, h4, h5, h6⟩ := means ε a w h
    unfold Does
    rw [h1]
    refine ⟨rfl, roundIn_of_wpIn (F := Fence.wide) trivial ?_⟩
    have hin1 : In K.G B w0 ε1 { S1 with dl := [], rnd := some i } A1 { tmps := xs.toArray, defers := [] } w' := ⟨h5.congr rfl rfl rfl, by simpa using h4, trivial⟩
    have hwp := hw2 ε1 _ w' (some l) hin1 ⟨l, rfl, h3⟩
    refine wpIn_mono hwp fun e' a1 w1 hq => ?_
    obtain ⟨rfl, ε2, ha2, hin2, hn2⟩ := hq
    have ha2' : ε1.agr S1.nxt ε2 := ha2
    obtain ⟨l', rc, h7, h8, h9, h10, h11, h12, h13, h14, h15⟩ := lpSet_ok hin2.rel hs3 hlo
    have hl2 : ε2.δ i = some l := (h5.le ha2' i l h3).1
    rw [hl2] at h7
    simp at h7
    subst h7
    refine ⟨_, run_beginRound h8 h9, ?_⟩
    have e3 : ({ rc with state := .busy, pending := pend } : Loop) = { rc with state := .busy } := by rw [← h10]
    rw [e3] at h11
    have hin3 : In K.G B w0 ε2 S3 A2 a1 (w1.putObj l (.loop { rc with state := .busy })) := ⟨h11, hin2.tmps, by rw [h15]; exact hin2.dl⟩
    have hrn3 : S3.rnd = some i := by rw [h14, hr2]
    have hwp2 := hw4 ε2 a1 _ (some l) hin3 (by rw [hrn3]; exact ⟨l, rfl, hl2⟩)
    refine wpIn_mono hwp2 fun e' a2 w2 hq => ?_
    obtain ⟨rfl, ε3, ha3, hin4, hn4⟩ := hq
    obtain ⟨x0, hx0⟩ := loopOf_lpSet hs5
    obtain ⟨l', rc2, h16, h17, h18, h19, h20, h21, h22, h23, h24⟩ := lpSet_ok (st0 := x0.1) (pend0 := x0.2) hin4.rel hs5 hx0
    have ha3' : ε2.agr S3.nxt ε3 := ha3
    have hl3 : ε3.δ i = some l := (hin3.rel.le ha3' i l hl2).1
    rw [hl3] at h16
    simp at h16
    subst h16
    have hend := run_endRound (P := K.P) e4.jump h17
    have hn2' : S1.nxt ≤ S2.nxt := hn2
    have hn3 : S.nxt ≤ S3.nxt := by rw [hb3.2.2]; exact Nat.le_trans h6 hn2'
    have haT : ε.agr S.nxt ε3 := Env.agr_trans (Env.agr_trans h2 ha2' h6) ha3' hn3
    have hfin : Post K.G B w0 ε S (xput A o.dst (.bool e4.jump.isNone)) (S.of S5) (a.put o.dst (.bool e4.jump.isNone)) (w2.putObj l (.loop { rc2 with state := if e4.jump.isNone then .ready else .done, pending := e4.jump })) := by
      refine ⟨ε3, haT, (h.mono (S' := S.of S5) haT (h20.congr rfl rfl rfl) rfl).put (by simp [γ]) _, ?_⟩
      show S.nxt ≤ S5.nxt
      rw [h21]
      exact Nat.le_trans hn3 hn4
    cases e4 with
    | normal => exact ⟨_, _, hend, _, rfl, hfin⟩
    | ret => exact ⟨_, _, hend, _, rfl, hfin⟩
    | exit id => exact ⟨_, _, hend, _, rfl, hfin⟩

theorem ops_ok {K : Cfg} {r : Rec} (hK : KOk K B w0) (hr : ROk K B w0 r) {all : Array Oper} : ∀ {l : List Oper} {A A' : List AV} {S S' : St} {e : XE}, opsF K r all l A S = some (e, A', S') →
    e = .normal ∧ S'.base = S.base ∧ S'.rnd = S.rnd ∧ ∀ (ε : Env) (a : Act) (w : World) (rr : Option Nat), In K.G B w0 ε S A a w → RN ε S.rnd rr →
      ∀ Q : Exit → Act → World → Prop, (∀ a' w', Post K.G B w0 ε S A' S' a' w' → Q .normal a' w') → wpListIn (FrS rr) 0 K.P all Q l a w
  | [], A, A', S, S', e, hl => by
    simp only [opsF, Option.some.injEq, Prod.mk.injEq] at hl
    obtain ⟨rfl, rfl, rfl⟩ := hl
    exact ⟨rfl, rfl, rfl, fun ε a w rr h _ Q hQ => hQ _ _ (Post.refl h)⟩
  | o :: l, A, A', S, S', e, hl => by
    have hl : opsC K r all o (opsF K r all l) A S = some (e, A', S') := hl
    unfold opsC at hl
    split at hl
    · rename_i hw
      split at hl <;> try (simp at hl; done)
      rename_i e1 A1 S1 hs
      obtain ⟨rfl, hb1, hr1, _, hd⟩ := step_ok hK hr hs
      obtain ⟨rfl, hb2, hr2, hrest⟩ := ops_ok hK hr hl
      refine ⟨rfl, hb2.trans hb1, hr2.trans hr1, fun ε a w rr h hrr Q hQ => ?_⟩
      have hw' : Region.wanted o (yielded all a.tmps) = true := by rw [wanted_eq h.tmps]; exact hw
      simp only [wpListIn, hw', if_true]
      refine (hd ε a w rr h hrr).wpIn fun a1 w1 hp => ?_
      obtain ⟨ε1, h1, h2, h3⟩ := hp
      refine hrest ε1 a1 w1 rr h2 ?_ Q fun a' w' hp' => hQ a' w' (hp'.trans h1 h3)
      rw [hr1]
      exact hrr.mono h1 (h.rel.le h1)
    · rename_i hw
      obtain ⟨rfl, hb2, hr2, hrest⟩ := ops_ok hK hr hl
      refine ⟨rfl, hb2, hr2, fun ε a w rr h hrr Q hQ => ?_⟩
      have hw' : Region.wanted o (yielded all a.tmps) = false := by rw [wanted_eq h.tmps]; exact hw
      simp only [wpListIn, hw', Bool.false_eq_true, if_false]
      exact ⟨fun f _ => trivial, hrest ε _ w rr (h.put γ_undef _) hrr Q hQ⟩
end
end
end Go.Rx
