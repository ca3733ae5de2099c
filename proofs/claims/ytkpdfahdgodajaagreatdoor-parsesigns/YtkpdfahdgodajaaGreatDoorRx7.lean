/- The reflective executor, part 7: append and the other builtins, interfaces, calls. -/
import Derived.Test.YtkpdfahdgodajaaGreatDoorRx6
import Derived.Laws.Runes
namespace Go.Rx
open Go.RowKit
section
variable {P : Program} {G B : Nat} {w0 w : World} {ε : Env} {S : St}

/-- A block of the model that no live number tells of gets the next number. -/
theorem Rel.bindNew (h : Rel G B w0 ε S w) (blk : ABlk) (b0 : Nat) (k : Nat) {w' : World} {o : Obj} (hbel : Below B w0 w') (hB : B ≤ w'.heap.size) (hb0 : B ≤ b0)
    (hlive : ∀ i bi b, S.get i = some bi → ε.δ i = some b → w'.heap[b]? = w.heap[b]? ∧ b ≠ b0) (ho : w'.heap[b0]? = some o)
    (hb : ∀ ε', ε.agr S.nxt ε' → ε'.κ S.nxt = k → BR ε' S.nxt blk o) : Rel G B w0 (ε.set S.nxt b0 k) (S.new blk) w' := by
  have hagr := Env.agr_set ε S.nxt b0 k
  have hle := h.le hagr
  have hself : (ε.set S.nxt b0 k).κ S.nxt = k := by simp [Env.set]
  have old : ∀ i b, ε.δ i = some b → (ε.set S.nxt b0 k).δ i = some b := fun i b hb => (hle i b hb).1
  refine ⟨hbel, hB, h.gB, by simp [St.new]; have := h.gn; omega, fun g hg => old g g (h.glob g hg), ?_, ?_, ?_, ?_, ?_⟩
  · intro j hj
    have : ¬ j = S.nxt := by simp [St.new] at hj; omega
    simp only [Env.set, this, if_false]
    exact h.free j (by simp [St.new] at hj; omega)
  · intro p hp
    simp only [St.new, List.mem_cons] at hp ⊢
    rcases hp with rfl | hp
    · exact Nat.lt_succ_self _
    · exact Nat.lt_succ_of_lt (h.bov p hp)
  · intro p hp
    exact Nat.lt_succ_of_lt (h.bba p hp)
  · intro i b hget
    rw [St.get_new] at hget
    split at hget
    · rename_i hi
      subst hi
      simp only [Option.some.injEq] at hget
      subst hget
      exact ⟨b0, o, by simp [Env.set], ho, hb _ hagr hself, fun _ => hb0⟩
    · obtain ⟨b', o', h1, h2, h3, h4⟩ := h.live i b hget
      have hlt := h.lt h1
      exact ⟨b', o', old i b' h1, by rw [(hlive i b b' hget h1).1]; exact h2, h3.mono hle (hagr i hlt).2, h4⟩
  · intro i j bi bj b hi hj h1 h2
    rw [St.get_new] at hi hj
    simp only [Env.set] at h1 h2
    split at hi
    · rename_i hi'
      split at hj
      · rename_i hj'; omega
      · subst hi'
        obtain ⟨b', o', h3, h4, _⟩ := h.live j bj hj
        have hjn : ¬ j = S.nxt := by have := h.lt h3; omega
        simp only [if_true, Option.some.injEq] at h1
        simp only [hjn, if_false] at h2
        exact absurd h1.symm (hlive j bj b hj h2).2
    · split at hj
      · rename_i hj'
        subst hj'
        obtain ⟨b', o', h3, h4, _⟩ := h.live i bi hi
        have hin : ¬ i = S.nxt := by have := h.lt h3; omega
        simp only [if_true, Option.some.injEq] at h2
        simp only [hin, if_false] at h1
        exact absurd h2.symm (hlive i bi b hi h1).2
      · obtain ⟨b', o', h3, h4, _⟩ := h.live i bi hi
        obtain ⟨b'', o'', h5, h6, _⟩ := h.live j bj hj
        have hin : ¬ i = S.nxt := by have := h.lt h3; omega
        have hjn : ¬ j = S.nxt := by have := h.lt h5; omega
        simp only [hin, hjn, if_false] at h1 h2
        exact h.inj i j bi bj b hi hj h1 h2
theorem Rel.kill (h : Rel G B w0 ε S w) {i b : Nat} (hi : ε.δ i = some b) : Rel G B w0 ε (S.put i none) w :=
  h.sub rfl (upd_bnd h.bov (h.lt hi) _) h.bba fun j bj hj => by
    rw [St.get_put] at hj
    split at hj
    · cases hj
    · exact hj

/-! ### append -/
theorem run_append_gen_grow {t xt ty e : TypeId} {i : TypeInfo} {z : Value} {d : TypeDesc} (ht : P.underlying t = some (.slice e)) (hi : P.info? e = some i) (hz : i.zero = some z)
    (hxt : P.underlying xt = some d) (hd : ∀ k, d ≠ .int k) (base : Option Addr) (sLen sCap : Nat) (x : Value) (m : Nat) (hm : ∀ w : World, (Builtin.lenOf x).run P w = .ok m w)
    (olds news : Array Value) (ho : (Builtin.firstCells i.size sLen (.slice base sLen sCap)).run P w.drew = .ok olds w.drew)
    (hn : (Builtin.firstCells i.size m x).run P w.drew = .ok news w.drew) (hg : sCap < sLen + m) (h63 : sLen + m ≤ 9223372036854775807)
    (hfit : Builtin.nextslicecap (sLen + m) sCap * i.bytes ≤ 281474976710656) :
    (Builtin.append_ #[t, xt] ty #[.slice base sLen sCap, x]).run P w = .ok (.slice (some ⟨w.heap.size, 0, none⟩) (sLen + m) (grownCap w (sLen + m) sCap e))
      (w.drew.alloc (.cells (olds ++ news ++ Builtin.zeroCells z.cells (grownCap w (sLen + m) sCap e - (sLen + m))) e)) := by
  have h1 : ¬ (sLen + m ≤ sCap) := by omega
  have h63' : ¬ (9223372036854775807 < ((sLen : Int) + (m : Int))) := by omega
  have h48' : ¬ (281474976710656 < Builtin.nextslicecap (sLen + m) sCap * i.bytes) := by omega
  simp [Builtin.append_, run_underlying ht, run_underlying hxt, sizeOf, typeInfo, zeroValue, hi, hz, hm, h1, h63', h48', Question.forced, ho, hn, newRow, grownCap]
theorem run_append_gen_room {t xt ty e : TypeId} {i : TypeInfo} {d : TypeDesc} (ht : P.underlying t = some (.slice e)) (hi : P.info? e = some i)
    (hxt : P.underlying xt = some d) (hd : ∀ k, d ≠ .int k) (a : Addr) (sLen sCap : Nat) (x : Value) (m : Nat) (hm : ∀ w : World, (Builtin.lenOf x).run P w = .ok m w)
    (news : List Value) (hn : (Builtin.firstCells i.size m x).run P w = .ok news.toArray w) (hg : sLen + m ≤ sCap) {w' : World} (hs : (storeCells (a.add (sLen * i.size)) news 0).run P w = .ok () w') :
    (Builtin.append_ #[t, xt] ty #[.slice (some a) sLen sCap, x]).run P w = .ok (.slice (some a) (sLen + m) sCap) w' := by
  simp [Builtin.append_, run_underlying ht, run_underlying hxt, sizeOf, typeInfo, hi, hm, hg, hn, hs]

/-- What is laid behind: its cells, and how many elements they are. -/
def xNews (P : Program) (xt : TypeId) (n : Nat) (x : AV) (S : St) : Option (List AV × Nat) :=
  match P.underlying xt, x with
  | some (.slice _), .slc i off len _ => match S.read i off (len * n) with
    | some vs => some (vs, len)
    | none => none
  | some (.slice _), .nilslc => some ([], 0)
  | some .string, .str s => if n = 1 then some (byteAVs s, s.length) else none
  | _, _ => none
theorem news_spec (h : Rel G B w0 ε S w) {xt : TypeId} {n : Nat} {x : AV} {y : Value} (hy : γ ε x = some y) {vs : List AV} {m : Nat} (hn : xNews P xt n x S = some (vs, m)) :
    ∃ xs d, P.underlying xt = some d ∧ (∀ k, d ≠ .int k) ∧ (∀ w : World, (Builtin.lenOf y).run P w = .ok m w) ∧ γs ε vs = some xs ∧ (Builtin.firstCells n m y).run P w = .ok xs.toArray w ∧
      (Builtin.firstCells n m y).run P w.drew = .ok xs.toArray w.drew ∧ xs.length = m * n := by
  unfold xNews at hn
  split at hn <;> try (simp at hn; done)
  · rename_i e i off len c ht
    split at hn <;> simp at hn
    rename_i us hr
    obtain ⟨rfl, rfl⟩ := hn
    simp only [γ, Option.map_eq_some_iff] at hy
    obtain ⟨b, hb, rfl⟩ := hy
    obtain ⟨b', xs, h4, h5, h6, h7⟩ := h.read hr
    rw [hb] at h4; simp at h4; subst h4
    refine ⟨xs, _, ht, by simp, fun w => rfl, h5, ?_, ?_, h6⟩
    · have hc := run_loadCells_list (P := P) w ⟨b, off, none⟩ xs (fun j v hj => by rw [Addr.add_lit]; exact h7 j v hj)
      rw [h6] at hc
      simpa [Builtin.firstCells] using hc
    · have hc := run_loadCells_list (P := P) w.drew ⟨b, off, none⟩ xs (fun j v hj => by rw [Addr.add_lit]; exact h7 j v hj)
      rw [h6] at hc
      simpa [Builtin.firstCells] using hc
  · rename_i e ht
    simp at hn
    obtain ⟨rfl, rfl⟩ := hn
    simp only [γ, Option.some.injEq] at hy
    subst hy
    exact ⟨[], _, ht, by simp, fun w => rfl, rfl, rfl, rfl, by simp⟩
  · rename_i s ht
    split at hn <;> simp at hn
    rename_i h1
    obtain ⟨rfl, rfl⟩ := hn
    simp only [γ] at hy
    split at hy <;> simp at hy
    rename_i hs
    subst hy; subst h1
    have e1 : (bs s).extract 0 s.length = bs s := by
      rw [bs_extract]; simp
    refine ⟨_, _, ht, by simp, fun w => by simp [Builtin.lenOf, bs_size], byteAVs_spec hs, ?_, ?_, by simpa using bs_size s⟩
    · simp only [Builtin.firstCells, e1, Array.toArray_toList]; rfl
    · simp only [Builtin.firstCells, e1, Array.toArray_toList]; rfl

def zeroOk (P : Program) (e : TypeId) (n : Nat) : Bool :=
  match zeroOf P e with
  | some z => z.cells.length == n
  | none => false
def xAppend (P : Program) (t xt : TypeId) (s x : AV) (S : St) : Option (AV × St) :=
  match P.underlying t with
  | some (.slice e) =>
    match P.info? e with
    | some i =>
      if zeroOk P e i.size && decide (0 < i.size) then
        match xNews P xt i.size x S with
        | some (vs, m) =>
          match s with
          | .nilslc =>
            if m = 0 then some (.nilslc, S)
            else if m * i.bytes ≤ 140737488355328 && m ≤ 9223372036854775807 && vs.all AV.one then some (.slc S.nxt 0 m (.blk 0), S.new (.cells vs e (some i.size) .free)) else none
          | .slc j off len (.ex c) =>
            if len + m ≤ c then
              match S.write j (off + len * i.size) vs with
              | some S' => some (.slc j off (len + m) (.ex c), S')
              | none => none
            else
              match S.read j off (len * i.size) with
              | some us => if (len + m) * i.bytes ≤ 140737488355328 && len + m ≤ 9223372036854775807 then some (.slc S.nxt 0 (len + m) (.blk 0), S.new (.cells (us ++ vs) e (some i.size) .free)) else none
              | none => none
          | .slc j 0 len (.blk 0) =>
            match S.get j with
            | some (.cells cs e' (some sz) .free) =>
              if e' = e && sz == i.size && cs.length == len * i.size && (len + m) * i.bytes ≤ 140737488355328 && len + m ≤ 9223372036854775807 && vs.all AV.one then
                some (.slc S.nxt 0 (len + m) (.blk 0), (S.put j none).new (.cells (cs ++ vs) e (some i.size) .free))
              else none
            | _ => none
          | _ => none
        | none => none
      else none
    | none => none
  | _ => none
theorem size_zeroCells' (z : Array Value) (n : Nat) : (Builtin.zeroCells z n).toList.length = n * z.size := by simp [Builtin.zeroCells]
theorem append_means (h : Rel G B w0 ε S w) {t xt ty : TypeId} {s x : AV} {p q : Value} {u : AV × St} (hs : γ ε s = some p) (hx : γ ε x = some q) (hl : xAppend P t xt s x S = some u) :
    MeansV G B w0 ε S ((Builtin.append_ #[t, xt] ty #[p, q]).run P w) u.1 u.2 := by
  unfold xAppend at hl
  split at hl <;> try (simp at hl; done)
  rename_i e ht
  split at hl <;> try (simp at hl; done)
  rename_i i hi
  split at hl <;> try (simp at hl; done)
  rename_i hz0
  simp only [Bool.and_eq_true, decide_eq_true_eq] at hz0
  obtain ⟨hzo, hpos⟩ := hz0
  unfold zeroOk at hzo
  split at hzo <;> try (simp at hzo; done)
  rename_i zv hzv
  obtain ⟨i', z, hi', hz, hzγ⟩ := zeroOf_spec hzv
  rw [hi] at hi'; simp at hi'; subst hi'
  have hzsz : z.cells.size = i.size := by
    have := γs_length (γ_cells (hzγ ε))
    simp only [Array.length_toList] at this
    simp only [beq_iff_eq] at hzo
    omega
  split at hl <;> try (simp at hl; done)
  rename_i vs m hnews
  obtain ⟨xs, d, hxt, hd, hm, hvs, hf1, hf2, hlen⟩ := news_spec h hx hnews
  have hge := fun need old => grownCap_ge' w need old e
  -- a new block
  have grow : ∀ (base : Option Addr) (sLen sCap : Nat) (us : List AV) (ys : List Value), γs ε us = some ys → ys.length = sLen * i.size → p = .slice base sLen sCap →
      (Builtin.firstCells i.size sLen (.slice base sLen sCap)).run P w.drew = .ok ys.toArray w.drew → sCap < sLen + m → (sLen + m) * i.bytes ≤ 140737488355328 → sLen + m ≤ 9223372036854775807 →
      ∀ S1, Rel G B w0 ε S1 w → S1.nxt = S.nxt →
      MeansV G B w0 ε S ((Builtin.append_ #[t, xt] ty #[p, q]).run P w) (.slc S.nxt 0 (sLen + m) (.blk 0)) (S1.new (.cells (us ++ vs) e (some i.size) .free)) := by
    intro base sLen sCap us ys hus hyl hp hfo hg hb h63 S1 h1 hn1
    subst hp
    have hr := run_append_gen_grow (P := P) (w := w) (ty := ty) ht hi hz hxt hd base sLen sCap q m hm ys.toArray xs.toArray hfo hf2 hg h63 (growslice_fits hg hb)
    have hge1 := hge (sLen + m) sCap
    generalize hC : grownCap w (sLen + m) sCap e = C at hr hge1
    have hag := Env.agr_set ε S.nxt w.heap.size C
    have hrel := h1.drew.alloc (.cells (us ++ vs) e (some i.size) .free) (.cells (ys.toArray ++ xs.toArray ++ Builtin.zeroCells z.cells (C - (sLen + m))) e) C (by
      intro ε' ha hk
      refine ⟨ys ++ xs, (Builtin.zeroCells z.cells (C - (sLen + m))).toList, (0, 0), γs_mono (h1.le ha) _ _ (γs_append hus hvs), by simp, fun _ => rfl, ?_⟩
      simp only [hk, List.length_append, size_zeroCells', hyl, hlen, hzsz, ← Nat.add_mul]
      congr 1
      omega)
    rw [hn1] at hrel
    refine ⟨_, _, _, hr, hag, ?_, hrel, by simp [St.nxt_new, hn1]⟩
    simp [γ, Env.set, capOf]
  split at hl <;> try (simp at hl; done)
  · -- nil
    simp only [γ, Option.some.injEq] at hs
    subst hs
    split at hl
    · rename_i hm0
      simp at hl; subst hl; subst hm0
      refine MeansV.same h (x := .slice none 0 0) ?_ (by simp [γ])
      simp [Builtin.append_, run_underlying ht, run_underlying hxt, sizeOf, typeInfo, hi, hm, hf1]
    · split at hl <;> simp at hl
      rename_i hm0 hc
      simp only [Bool.and_eq_true, decide_eq_true_eq] at hc
      subst hl
      have := grow none 0 0 [] [] rfl (by simp) rfl rfl (by omega) (by simpa using hc.1.1) (by simpa using hc.1.2) S h rfl
      simpa using this
  · -- capacity known
    rename_i j off len c
    simp only [γ, Option.map_eq_some_iff] at hs
    obtain ⟨b, hb, rfl⟩ := hs
    split at hl
    · rename_i hroom
      split at hl <;> simp at hl
      rename_i S' hw
      subst hl
      obtain ⟨b', w', h1, h2, h3, h4⟩ := h.write (P := P) hw hvs
      rw [hb] at h1; simp at h1; subst h1
      have hr := run_append_gen_room (P := P) (ty := ty) ht hi hxt hd ⟨b, off, none⟩ len c q m hm xs hf1 hroom (by rw [Addr.add_lit]; exact h2)
      exact ⟨_, w', ε, hr, Env.agr_refl _ _, by simp [γ, hb, capOf], h3, by simp [h4]⟩
    · rename_i hroom
      split at hl <;> try (simp at hl; done)
      rename_i us hr
      split at hl <;> simp at hl
      rename_i hc
      simp only [Bool.and_eq_true, decide_eq_true_eq] at hc
      subst hl
      obtain ⟨b', ys, h4, h5, h6, h7⟩ := h.read hr
      rw [hb] at h4; simp at h4; subst h4
      have hfo : (Builtin.firstCells i.size len (.slice (some ⟨b, off, none⟩) len c)).run P w.drew = .ok ys.toArray w.drew := by
        have hc := run_loadCells_list (P := P) w.drew ⟨b, off, none⟩ ys (fun j v hj => by rw [Addr.add_lit]; exact h7 j v hj)
        rw [h6] at hc
        simpa [Builtin.firstCells] using hc
      exact grow (some ⟨b, off, none⟩) len c us ys h5 h6 (by simp [capOf]) hfo (by omega) hc.1 hc.2 S h rfl
  · -- capacity not known
    rename_i j len
    split at hl <;> try (simp at hl; done)
    rename_i cs e' sz hget
    split at hl <;> simp at hl
    rename_i hc
    simp only [Bool.and_eq_true, decide_eq_true_eq, beq_iff_eq] at hc
    obtain ⟨⟨⟨⟨⟨rfl, rfl⟩, hcl⟩, hc1⟩, hc2⟩, hone⟩ := hc
    subst hl
    simp only [γ, Option.map_eq_some_iff] at hs
    obtain ⟨b, hb, rfl⟩ := hs
    obtain ⟨b', o, h1, h2, ⟨ys, extra, fr, h3, h4, h5, h6⟩, h7⟩ := h.live _ _ hget
    rw [hb] at h1; simp at h1; subst h1
    have hfr := h5 rfl
    subst hfr; subst h4
    have hyl := γs_length h3
    have hkill := h.kill hb
    by_cases hroom : len + m ≤ ε.κ j
    · -- in place
      have hlen2 : ys.length = len * i.size := by omega
      have htot : (len + m) * i.size ≤ (ys ++ extra).length := by rw [h6]; exact Nat.mul_le_mul_right _ hroom
      rw [Nat.add_mul] at htot
      have hst := run_storeCells_at P b (len * i.size) e' xs 0 (ys ++ extra).toArray w h2 (by simp at htot ⊢; omega) (γs_one hvs hone)
      simp only [Nat.add_zero] at hst
      have hr := run_append_gen_room (P := P) (ty := ty) ht hi hxt hd ⟨b, 0, none⟩ len (capOf ε j (.blk 0)) q m hm xs hf1 (by simpa [capOf] using hroom)
        (by rw [Addr.add_lit, Nat.zero_add]; exact hst)
      have hrow := setRow_heap w b _ ((ys ++ extra).toArray.toList.take (len * i.size) ++ xs ++ (ys ++ extra).toArray.toList.drop (len * i.size + xs.length)).toArray e' (0, 0) h2
      have e1 : (ys ++ extra).toArray.toList.take (len * i.size) = ys := by
        rw [← hlen2]; simp
      have e2 : (ys ++ extra).toArray.toList.drop (len * i.size + xs.length) = extra.drop xs.length := by
        rw [← hlen2]; simp [List.drop_append]
      rw [e1, e2] at hrow
      rw [e1, e2] at hr
      have hBb := h7 rfl
      have hrel := hkill.bindNew (.cells (cs ++ vs) e' (some i.size) .free) b (ε.κ j) (w' := w.setRow b (ys ++ xs ++ extra.drop xs.length).toArray) (o := .cells (ys ++ xs ++ extra.drop xs.length).toArray e' (0, 0))
        ⟨h.below.os, h.below.tape, h.below.output, by simp; exact h.below.size, fun k hk => (setRow_other w b k _ (by omega)).trans (h.below.block k hk)⟩ (by simp; exact h.hB) hBb
        (fun k bk c hk hc => by
          rw [St.get_put] at hk
          split at hk
          · cases hk
          · rename_i hjk
            have hne : c ≠ b := fun e => hjk (h.inj j k _ bk b hget hk hb (e ▸ hc))
            exact ⟨setRow_other w b c _ hne, hne⟩) hrow
        (fun ε' ha hk => by
          refine ⟨ys ++ xs, extra.drop xs.length, (0, 0), γs_mono (h.le ha) _ _ (γs_append h3 hvs), rfl, fun _ => rfl, ?_⟩
          have hk' : ε'.κ S.nxt = ε.κ j := hk
          simp only [St.put, hk', List.length_append, List.length_drop] at h6 htot ⊢
          omega)
      refine ⟨_, _, _, hr, Env.agr_set ε S.nxt b (ε.κ j), ?_, hrel, by simp [St.nxt_new, St.put]⟩
      simp [γ, Env.set, capOf]
    · -- a new block
      have hfo : (Builtin.firstCells i.size len (.slice (some ⟨b, 0, none⟩) len (capOf ε j (.blk 0)))).run P w.drew = .ok ys.toArray w.drew := by
        have hc := run_loadCells_list (P := P) w.drew ⟨b, 0, none⟩ ys (fun j v hj => by
          rw [Addr.add_lit]
          have hlt : j < ys.length := (List.getElem?_eq_some_iff.1 hj).1
          show w.cell? _ = _
          simp [World.cell?, h2, List.getElem?_append_left hlt, hj])
        rw [show ys.length = len * i.size by omega] at hc
        simpa [Builtin.firstCells] using hc
      exact grow (some ⟨b, 0, none⟩) len (capOf ε j (.blk 0)) cs ys h3 (by omega) (by simp [capOf]) hfo (by simp [capOf]; omega) hc1 hc2 (S.put j none) hkill rfl
end
end Go.Rx
