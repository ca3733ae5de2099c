/- The reflective executor, part 7: append and the other builtins, interfaces, calls. -/
import Derived.Test.YtlealmffhmhchaaGreatDoorExA
import Derived.Laws.Runes
import Derived.Lib.UnsafeStr
import Derived.RangeFuncRecord
import Derived.Stop.Asserts
import Derived.Scope
import Derived.Laws.RangeString
namespace Go.Ex
open Go.RowKit
section
variable {P : Program} {G B : Nat} {w0 w : World} {ε : Env} {S : St}

/-- A block of the model that no live number tells of gets the next number. -/
theorem Rel.bindNew (h : Rel G B w0 ε S w) (blk : ABlk) (b0 : Nat) (k : Nat) {w' : World} {o : Obj} (hbel : Below B w0 w') (hB : B ≤ w'.heap.size) (hb0 : B ≤ b0)
    (hlive : ∀ i bi b, S.get i = some bi → ε.δ i = some b → w'.heap[b]? = w.heap[b]? ∧ b ≠ b0) (ho : w'.heap[b0]? = some o)
    (hM0 : ε.M b0 = none) (hmem : ∀ b o, ε.M b = some o → w'.heap[b]? = some o)
    (hb : ∀ ε', ε.agr S.nxt ε' → ε'.κ S.nxt = k → BR ε' S.nxt blk o) : Rel G B w0 (ε.set S.nxt b0 k) (S.new blk) w' := by
  have hagr := Env.agr_set ε S.nxt b0 k
  have hle := h.le hagr
  have hself : (ε.set S.nxt b0 k).κ S.nxt = k := by simp [Env.set]
  have old : ∀ i b, ε.δ i = some b → (ε.set S.nxt b0 k).δ i = some b := fun i b hb => (hle.d i b hb).1
  refine ⟨hbel, hB, h.gB, by simp [St.new]; have := h.gn; omega, fun g hg => old g g (h.glob g hg), ?_, ?_, ?_, ?_, ?_, hmem, ?_, h.old, h.eG, fun g hg => (Env.set_k (Nat.lt_of_lt_of_le hg h.gn)).trans (h.k0 g hg)⟩
  · intro j hj
    have : ¬ j = S.nxt := by simp [St.new] at hj; omega
    simp only [Env.set, this, if_false]
    exact h.free j (by simp [St.new] at hj; omega)
  · intro p hp
    simp only [St.new, List.mem_cons] at hp ⊢
    rcases hp with rfl | hp
    · exact Nat.lt_succ_self _
    · exact Nat.lt_succ_of_lt (h.bov p hp)
  · intro p hp
    exact Nat.lt_succ_of_lt (h.bba p hp)
  · intro i b hget
    rw [St.get_new] at hget
    split at hget
    · rename_i hi
      subst hi
      simp only [Option.some.injEq] at hget
      subst hget
      exact ⟨b0, o, by simp [Env.set], ho, hb _ hagr hself, fun _ => hb0⟩
    · obtain ⟨b', o', h1, h2, h3, h4⟩ := h.live i b hget
      have hlt := h.lt h1
      exact ⟨b', o', old i b' h1, by rw [(hlive i b b' hget h1).1]; exact h2, h3.mono hle (hagr.d i hlt).2, h4⟩
  · intro i j bi bj b hi hj h1 h2
    rw [St.get_new] at hi hj
    simp only [Env.set] at h1 h2
    split at hi
    · rename_i hi'
      split at hj
      · rename_i hj'; omega
      · subst hi'
        obtain ⟨b', o', h3, h4, _⟩ := h.live j bj hj
        have hjn : ¬ j = S.nxt := by have := h.lt h3; omega
        simp only [if_true, Option.some.injEq] at h1
        simp only [hjn, if_false] at h2
        exact absurd h1.symm (hlive j bj b hj h2).2
    · split at hj
      · rename_i hj'
        subst hj'
        obtain ⟨b', o', h3, h4, _⟩ := h.live i bi hi
        have hin : ¬ i = S.nxt := by have := h.lt h3; omega
        simp only [if_true, Option.some.injEq] at h2
        simp only [hin, if_false] at h1
        exact absurd h2.symm (hlive i bi b hi h1).2
      · obtain ⟨b', o', h3, h4, _⟩ := h.live i bi hi
        obtain ⟨b'', o'', h5, h6, _⟩ := h.live j bj hj
        have hin : ¬ i = S.nxt := by have := h.lt h3; omega
        have hjn : ¬ j = S.nxt := by have := h.lt h5; omega
        simp only [hin, hjn, if_false] at h1 h2
        exact h.inj i j bi bj b hi hj h1 h2
  · intro i bi b hi hown hib
    rw [St.get_new] at hi
    simp only [Env.set] at hib
    split at hi
    · rename_i hin
      subst hin
      simp at hib
      subst hib
      exact hM0
    · obtain ⟨b', o', h3, h4, _⟩ := h.live i bi hi
      have hin : ¬ i = S.nxt := by have := h.lt h3; omega
      simp only [hin, if_false] at hib
      exact h.apart i bi b hi hown hib
theorem Rel.kill (h : Rel G B w0 ε S w) {i b : Nat} (hi : ε.δ i = some b) : Rel G B w0 ε (S.put i none) w :=
  h.sub rfl (upd_bnd h.bov (h.lt hi) _) h.bba fun j bj hj => by
    rw [St.get_put] at hj
    split at hj
    · cases hj
    · exact hj

/-! ### append -/
theorem run_append_gen_grow {t xt ty e : TypeId} {i : TypeInfo} {z : Value} {d : TypeDesc} (ht : P.underlying t = some (.slice e)) (hi : P.info? e = some i) (hz : i.zero = some z)
    (hxt : P.underlying xt = some d) (hd : ∀ k, d ≠ .int k) (base : Option Addr) (sLen sCap : Nat) (x : Value) (m : Nat) (hm : ∀ w : World, (Builtin.lenOf x).run P w = .ok m w)
    (olds news : Array Value) (ho : (Builtin.firstCells i.size sLen (.slice base sLen sCap)).run P w.drew = .ok olds w.drew)
    (hn : (Builtin.firstCells i.size m x).run P w.drew = .ok news w.drew) (hg : sCap < sLen + m) (h63 : sLen + m ≤ 9223372036854775807)
    (hfit : Builtin.nextslicecap (sLen + m) sCap * i.bytes ≤ 281474976710656) :
    (Builtin.append_ #[t, xt] ty #[.slice base sLen sCap, x]).run P w = .ok (.slice (some ⟨w.heap.size, 0, none⟩) (sLen + m) (grownCap w (sLen + m) sCap e))
      (w.drew.alloc (.cells (olds ++ news ++ Builtin.zeroCells z.cells (grownCap w (sLen + m) sCap e - (sLen + m))) e)) := by
  have h1 : ¬ (sLen + m ≤ sCap) := by omega
  have h63' : ¬ (9223372036854775807 < ((sLen : Int) + (m : Int))) := by omega
  have h48' : ¬ (281474976710656 < Builtin.nextslicecap (sLen + m) sCap * i.bytes) := by omega
  simp [Builtin.append_, run_underlying ht, run_underlying hxt, sizeOf, typeInfo, zeroValue, hi, hz, hm, h1, h63', h48', Question.forced, ho, hn, newRow, grownCap]
theorem run_append_gen_room {t xt ty e : TypeId} {i : TypeInfo} {d : TypeDesc} (ht : P.underlying t = some (.slice e)) (hi : P.info? e = some i)
    (hxt : P.underlying xt = some d) (hd : ∀ k, d ≠ .int k) (a : Addr) (sLen sCap : Nat) (x : Value) (m : Nat) (hm : ∀ w : World, (Builtin.lenOf x).run P w = .ok m w)
    (news : List Value) (hn : (Builtin.firstCells i.size m x).run P w = .ok news.toArray w) (hg : sLen + m ≤ sCap) {w' : World} (hs : (storeCells (a.add (sLen * i.size)) news 0).run P w = .ok () w') :
    (Builtin.append_ #[t, xt] ty #[.slice (some a) sLen sCap, x]).run P w = .ok (.slice (some a) (sLen + m) sCap) w' := by
  simp [Builtin.append_, run_underlying ht, run_underlying hxt, sizeOf, typeInfo, hi, hm, hg, hn, hs]

/-- What is laid behind: its cells, and how many elements they are. -/
def xNews (P : Program) (xt : TypeId) (n : Nat) (x : AV) (S : St) : Option (List AV × Nat) :=
  match P.underlying xt, x with
  | some (.slice _), .slc i off len _ => match S.read i off (len * n) with
    | some vs => some (vs, len)
    | none => none
  | some (.slice _), .nilslc => some ([], 0)
  | some .string, .str s => if n = 1 then some (byteAVs s, s.length) else none
  | _, _ => none
theorem news_spec (h : Rel G B w0 ε S w) {xt : TypeId} {n : Nat} {x : AV} {y : Value} (hy : γ ε x y) {vs : List AV} {m : Nat} (hn : xNews P xt n x S = some (vs, m)) :
    ∃ xs d, P.underlying xt = some d ∧ (∀ k, d ≠ .int k) ∧ (∀ w : World, (Builtin.lenOf y).run P w = .ok m w) ∧ γs ε vs xs ∧ (Builtin.firstCells n m y).run P w = .ok xs.toArray w ∧
      (Builtin.firstCells n m y).run P w.drew = .ok xs.toArray w.drew ∧ xs.length = m * n := by
  unfold xNews at hn
  split at hn <;> try (simp at hn; done)
  · rename_i e i off len c ht
    split at hn <;> simp at hn
    rename_i us hr
    obtain ⟨rfl, rfl⟩ := hn
    simp only [γ, Option.map_eq_some_iff] at hy
    obtain ⟨b, hb, rfl⟩ := hy
    obtain ⟨b', xs, h4, h5, h6, h7⟩ := h.read hr
    rw [hb] at h4; simp at h4; subst h4
    refine ⟨xs, _, ht, by simp, fun w => rfl, h5, ?_, ?_, h6⟩
    · have hc := run_loadCells_list (P := P) w ⟨b, off, none⟩ xs (fun j v hj => by rw [Addr.add_lit]; exact h7 j v hj)
      rw [h6] at hc
      simpa [Builtin.firstCells] using hc
    · have hc := run_loadCells_list (P := P) w.drew ⟨b, off, none⟩ xs (fun j v hj => by rw [Addr.add_lit]; exact h7 j v hj)
      rw [h6] at hc
      simpa [Builtin.firstCells] using hc
  · rename_i e ht
    simp at hn
    obtain ⟨rfl, rfl⟩ := hn
    simp only [γ, Option.some.injEq] at hy
    subst hy
    exact ⟨[], _, ht, by simp, fun w => rfl, rfl, rfl, rfl, by simp⟩
  · rename_i s ht
    split at hn <;> simp at hn
    rename_i h1
    obtain ⟨rfl, rfl⟩ := hn
    simp only [γ] at hy
    obtain ⟨hs, rfl⟩ := hy
    subst h1
    have e1 : (bs s).extract 0 s.length = bs s := by
      rw [bs_extract]; simp
    refine ⟨_, _, ht, by simp, fun w => by simp [Builtin.lenOf, bs_size], byteAVs_spec hs, ?_, ?_, by simpa using bs_size s⟩
    · simp only [Builtin.firstCells, e1, Array.toArray_toList]; rfl
    · simp only [Builtin.firstCells, e1, Array.toArray_toList]; rfl

def zeroOk (P : Program) (e : TypeId) (n : Nat) : Bool :=
  match zeroOf P e with
  | some z => z.cells.length == n
  | none => false
def xAppend (P : Program) (t xt : TypeId) (s x : AV) (S : St) : Option (AV × St) :=
  match P.underlying t with
  | some (.slice e) =>
    match P.info? e with
    | some i =>
      if zeroOk P e i.size && decide (0 < i.size) then
        match xNews P xt i.size x S with
        | some (vs, m) =>
          match s with
          | .nilslc =>
            if m = 0 then some (.nilslc, S)
            else if m * i.bytes ≤ 140737488355328 && m ≤ 9223372036854775807 && vs.all AV.one then some (.slc S.nxt 0 m (.blk 0), S.new (.cells vs e (some i.size) .free)) else none
          | .slc j off len (.ex c) =>
            if len + m ≤ c then
              match S.write j (off + len * i.size) vs with
              | some S' => some (.slc j off (len + m) (.ex c), S')
              | none => none
            else
              match S.read j off (len * i.size) with
              | some us => if (len + m) * i.bytes ≤ 140737488355328 && len + m ≤ 9223372036854775807 then some (.slc S.nxt 0 (len + m) (.blk 0), S.new (.cells (us ++ vs) e (some i.size) .free)) else none
              | none => none
          | .slc j 0 len (.blk 0) =>
            match S.get j with
            | some (.cells cs e' (some sz) .free) =>
              if e' = e && sz == i.size && cs.length == len * i.size && (len + m) * i.bytes ≤ 140737488355328 && len + m ≤ 9223372036854775807 && vs.all AV.one then
                some (.slc S.nxt 0 (len + m) (.blk 0), (S.put j none).new (.cells (cs ++ vs) e (some i.size) .free))
              else none
            | _ => none
          | _ => none
        | none => none
      else none
    | none => none
  | _ => none
theorem size_zeroCells' (z : Array Value) (n : Nat) : (Builtin.zeroCells z n).toList.length = n * z.size := by simp [Builtin.zeroCells]
theorem append_means (h : Rel G B w0 ε S w) {t xt ty : TypeId} {s x : AV} {p q : Value} {u : AV × St} (hs : γ ε s p) (hx : γ ε x q) (hl : xAppend P t xt s x S = some u) :
    MeansV G B w0 ε S ((Builtin.append_ #[t, xt] ty #[p, q]).run P w) u.1 u.2 := by
  unfold xAppend at hl
  split at hl <;> try (simp at hl; done)
  rename_i e ht
  split at hl <;> try (simp at hl; done)
  rename_i i hi
  split at hl <;> try (simp at hl; done)
  rename_i hz0
  simp only [Bool.and_eq_true, decide_eq_true_eq] at hz0
  obtain ⟨hzo, hpos⟩ := hz0
  unfold zeroOk at hzo
  split at hzo <;> try (simp at hzo; done)
  rename_i zv hzv
  obtain ⟨i', z, hi', hz, hzγ⟩ := zeroOf_spec hzv
  rw [hi] at hi'; simp at hi'; subst hi'
  have hzsz : z.cells.size = i.size := by
    have := γs_length (γ_cells (hzγ ε) (zeroOf_good hzv))
    simp only [Array.length_toList] at this
    simp only [beq_iff_eq] at hzo
    omega
  split at hl <;> try (simp at hl; done)
  rename_i vs m hnews
  obtain ⟨xs, d, hxt, hd, hm, hvs, hf1, hf2, hlen⟩ := news_spec h hx hnews
  have hge := fun need old => grownCap_ge' w need old e
  -- a new block
  have grow : ∀ (base : Option Addr) (sLen sCap : Nat) (us : List AV) (ys : List Value), γs ε us ys → ys.length = sLen * i.size → p = .slice base sLen sCap →
      (Builtin.firstCells i.size sLen (.slice base sLen sCap)).run P w.drew = .ok ys.toArray w.drew → sCap < sLen + m → (sLen + m) * i.bytes ≤ 140737488355328 → sLen + m ≤ 9223372036854775807 →
      ∀ S1, Rel G B w0 ε S1 w → S1.nxt = S.nxt →
      MeansV G B w0 ε S ((Builtin.append_ #[t, xt] ty #[p, q]).run P w) (.slc S.nxt 0 (sLen + m) (.blk 0)) (S1.new (.cells (us ++ vs) e (some i.size) .free)) := by
    intro base sLen sCap us ys hus hyl hp hfo hg hb h63 S1 h1 hn1
    subst hp
    have hr := run_append_gen_grow (P := P) (w := w) (ty := ty) ht hi hz hxt hd base sLen sCap q m hm ys.toArray xs.toArray hfo hf2 hg h63 (growslice_fits hg hb)
    have hge1 := hge (sLen + m) sCap
    generalize hC : grownCap w (sLen + m) sCap e = C at hr hge1
    have hag := Env.agr_set ε S.nxt w.heap.size C
    have hrel := h1.drew.alloc (.cells (us ++ vs) e (some i.size) .free) (.cells (ys.toArray ++ xs.toArray ++ Builtin.zeroCells z.cells (C - (sLen + m))) e) C (by
      intro ε' ha hk
      refine ⟨ys ++ xs, (Builtin.zeroCells z.cells (C - (sLen + m))).toList, (0, 0), γs_mono (h1.le ha) _ _ (γs_append hus hvs), by simp, fun _ => rfl, ?_⟩
      simp only [hk, List.length_append, size_zeroCells', hyl, hlen, hzsz, ← Nat.add_mul]
      congr 1
      omega)
    rw [hn1] at hrel
    refine ⟨_, _, _, hr, hag, ?_, hrel, by simp [St.nxt_new, hn1]⟩
    simp [γ, Env.set, capOf]
  split at hl <;> try (simp at hl; done)
  · -- nil
    simp only [γ, Option.some.injEq] at hs
    subst hs
    split at hl
    · rename_i hm0
      simp at hl; subst hl; subst hm0
      refine MeansV.same h (x := .slice none 0 0) ?_ (by simp [γ])
      simp [Builtin.append_, run_underlying ht, run_underlying hxt, sizeOf, typeInfo, hi, hm, hf1]
    · split at hl <;> simp at hl
      rename_i hm0 hc
      simp only [Bool.and_eq_true, decide_eq_true_eq] at hc
      subst hl
      have := grow none 0 0 [] [] rfl (by simp) rfl rfl (by omega) (by simpa using hc.1.1) (by simpa using hc.1.2) S h rfl
      simpa using this
  · -- capacity known
    rename_i j off len c
    simp only [γ, Option.map_eq_some_iff] at hs
    obtain ⟨b, hb, rfl⟩ := hs
    split at hl
    · rename_i hroom
      split at hl <;> simp at hl
      rename_i S' hw
      subst hl
      obtain ⟨b', w', h1, h2, h3, h4⟩ := h.write (P := P) hw hvs
      rw [hb] at h1; simp at h1; subst h1
      have hr := run_append_gen_room (P := P) (ty := ty) ht hi hxt hd ⟨b, off, none⟩ len c q m hm xs hf1 hroom (by rw [Addr.add_lit]; exact h2)
      exact ⟨_, w', ε, hr, Env.agr_refl _ _, by simp [γ, hb, capOf], h3, by simp [h4]⟩
    · rename_i hroom
      split at hl <;> try (simp at hl; done)
      rename_i us hr
      split at hl <;> simp at hl
      rename_i hc
      simp only [Bool.and_eq_true, decide_eq_true_eq] at hc
      subst hl
      obtain ⟨b', ys, h4, h5, h6, h7⟩ := h.read hr
      rw [hb] at h4; simp at h4; subst h4
      have hfo : (Builtin.firstCells i.size len (.slice (some ⟨b, off, none⟩) len c)).run P w.drew = .ok ys.toArray w.drew := by
        have hc := run_loadCells_list (P := P) w.drew ⟨b, off, none⟩ ys (fun j v hj => by rw [Addr.add_lit]; exact h7 j v hj)
        rw [h6] at hc
        simpa [Builtin.firstCells] using hc
      exact grow (some ⟨b, off, none⟩) len c us ys h5 h6 (by simp [capOf]) hfo (by omega) hc.1 hc.2 S h rfl
  · -- capacity not known
    rename_i j len
    split at hl <;> try (simp at hl; done)
    rename_i cs e' sz hget
    split at hl <;> simp at hl
    rename_i hc
    simp only [Bool.and_eq_true, decide_eq_true_eq, beq_iff_eq] at hc
    obtain ⟨⟨⟨⟨⟨rfl, rfl⟩, hcl⟩, hc1⟩, hc2⟩, hone⟩ := hc
    subst hl
    simp only [γ, Option.map_eq_some_iff] at hs
    obtain ⟨b, hb, rfl⟩ := hs
    obtain ⟨b', o, h1, h2, ⟨ys, extra, fr, h3, h4, h5, h6⟩, h7⟩ := h.live _ _ hget
    rw [hb] at h1; simp at h1; subst h1
    have hfr := h5 rfl
    subst hfr; subst h4
    have hyl := γs_length h3
    have hkill := h.kill hb
    by_cases hroom : len + m ≤ ε.κ j
    · -- in place
      have hlen2 : ys.length = len * i.size := by omega
      have htot : (len + m) * i.size ≤ (ys ++ extra).length := by rw [h6]; exact Nat.mul_le_mul_right _ hroom
      rw [Nat.add_mul] at htot
      have hst := run_storeCells_at P b (len * i.size) e' xs 0 (ys ++ extra).toArray w h2 (by simp at htot ⊢; omega) (γs_one hvs hone)
      simp only [Nat.add_zero] at hst
      have hr := run_append_gen_room (P := P) (ty := ty) ht hi hxt hd ⟨b, 0, none⟩ len (capOf ε j (.blk 0)) q m hm xs hf1 (by simpa [capOf] using hroom)
        (by rw [Addr.add_lit, Nat.zero_add]; exact hst)
      have hrow := setRow_heap w b _ ((ys ++ extra).toArray.toList.take (len * i.size) ++ xs ++ (ys ++ extra).toArray.toList.drop (len * i.size + xs.length)).toArray e' (0, 0) h2
      have e1 : (ys ++ extra).toArray.toList.take (len * i.size) = ys := by
        rw [← hlen2]; simp
      have e2 : (ys ++ extra).toArray.toList.drop (len * i.size + xs.length) = extra.drop xs.length := by
        rw [← hlen2]; simp [List.drop_append]
      rw [e1, e2] at hrow
      rw [e1, e2] at hr
      have hBb := h7 rfl
      have hrel := hkill.bindNew (.cells (cs ++ vs) e' (some i.size) .free) b (ε.κ j) (w' := w.setRow b (ys ++ xs ++ extra.drop xs.length).toArray) (o := .cells (ys ++ xs ++ extra.drop xs.length).toArray e' (0, 0))
        ⟨h.below.os, h.below.tape, h.below.output, by simp; exact h.below.size, fun k hk => (setRow_other w b k _ (by omega)).trans (h.below.block k hk)⟩ (by simp; exact h.hB) hBb
        (fun k bk c hk hc => by
          rw [St.get_put] at hk
          split at hk
          · cases hk
          · rename_i hjk
            have hne : c ≠ b := fun e => hjk (h.inj j k _ bk b hget hk hb (e ▸ hc))
            exact ⟨setRow_other w b c _ hne, hne⟩) hrow (h.apart j _ b hget rfl hb)
        (fun c oc hc => by
          have hne : c ≠ b := fun e => by rw [e, h.apart j _ b hget rfl hb] at hc; cases hc
          exact (setRow_other w b c _ hne).trans (h.mem c oc hc))
        (fun ε' ha hk => by
          refine ⟨ys ++ xs, extra.drop xs.length, (0, 0), γs_mono (h.le ha) _ _ (γs_append h3 hvs), rfl, fun _ => rfl, ?_⟩
          have hk' : ε'.κ S.nxt = ε.κ j := hk
          simp only [St.put, hk', List.length_append, List.length_drop] at h6 htot ⊢
          omega)
      refine ⟨_, _, _, hr, Env.agr_set ε S.nxt b (ε.κ j), ?_, hrel, by simp [St.nxt_new, St.put]⟩
      simp [γ, Env.set, capOf]
    · -- a new block
      have hfo : (Builtin.firstCells i.size len (.slice (some ⟨b, 0, none⟩) len (capOf ε j (.blk 0)))).run P w.drew = .ok ys.toArray w.drew := by
        have hc := run_loadCells_list (P := P) w.drew ⟨b, 0, none⟩ ys (fun j v hj => by
          rw [Addr.add_lit]
          have hlt : j < ys.length := (List.getElem?_eq_some_iff.1 hj).1
          show w.cell? _ = _
          simp [World.cell?, h2, List.getElem?_append_left hlt, hj])
        rw [show ys.length = len * i.size by omega] at hc
        simpa [Builtin.firstCells] using hc
      exact grow (some ⟨b, 0, none⟩) len (capOf ε j (.blk 0)) cs ys h3 (by omega) (by simp [capOf]) hfo (by simp [capOf]; omega) hc1 hc2 (S.put j none) hkill rfl
end
end Go.Ex
/- The reflective executor, part 8: all operations. -/
namespace Go.Ex
noncomputable section
open Go.RowKit
section
variable {P : Program} {G B : Nat} {w0 w : World} {ε : Env} {S : St}

/-- What a computation yields that asks nothing but the program; marks are passed by. -/
def pureM {α : Type} (P : Program) : Sem α → Option α
  | .pure a => some a
  | .program k => pureM P (k P)
  | .mark _ k => pureM P k
  | _ => none
theorem pureM_run {α : Type} {P : Program} : ∀ {s : Sem α} {a : α}, pureM P s = some a → ∀ w, s.run P w = .ok a w
  | .pure b, a, h, w => by simp [pureM] at h; subst h; rfl
  | .program k, a, h, w => by simp only [pureM] at h; simpa [Sem.run] using pureM_run h w
  | .mark m k, a, h, w => by simp only [pureM] at h; simpa [Sem.run] using pureM_run h w
  | .load .., a, h, w => by simp [pureM] at h
  | .store .., a, h, w => by simp [pureM] at h
  | .new .., a, h, w => by simp [pureM] at h
  | .shape .., a, h, w => by simp [pureM] at h
  | .freeze .., a, h, w => by simp [pureM] at h
  | .frozen .., a, h, w => by simp [pureM] at h
  | .getObj .., a, h, w => by simp [pureM] at h
  | .setObj .., a, h, w => by simp [pureM] at h
  | .choose .., a, h, w => by simp [pureM] at h
  | .sys .., a, h, w => by simp [pureM] at h
  | .halt .., a, h, w => by simp [pureM] at h

/-- A closed value, strings too. -/
def scs : AV → Option Value
  | .int k n => some (.int k n)
  | .bool b => some (.bool b)
  | .flt k n => some (.float k n)
  | .str s => if okb s then some (.string (bs s)) else none
  | .nilslc => some (.slice none 0 0)
  | _ => none
theorem scs_γ {v : AV} {x : Value} (h : scs v = some x) : γ ε v x := by
  cases v <;> simp [scs] at h <;> simp [γ, h]
theorem scs_det {v : AV} {x y : Value} (h : scs v = some x) (hy : γ ε v y) : y = x := by
  cases v <;> simp [scs] at h <;> simp [γ] at hy <;> simp_all
def scl : List AV → Option (List Value)
  | [] => some []
  | v :: l => match scs v with
    | some x => match scl l with
      | some xs => some (x :: xs)
      | none => none
    | none => none
theorem scl_γ : ∀ {l : List AV} {xs : List Value}, scl l = some xs → γs ε l xs
  | [], xs, h => by simp [scl] at h; subst h; rfl
  | v :: l, xs, h => by
    simp only [scl] at h
    split at h <;> try (simp at h; done)
    rename_i x hx
    split at h <;> try (simp at h; done)
    rename_i ys hy
    simp at h; subst h
    exact γs_cons.2 ⟨x, ys, scs_γ hx, scl_γ hy, rfl⟩

theorem scl_det : ∀ {l : List AV} {xs ys : List Value}, scl l = some xs → γs ε l ys → ys = xs
  | [], xs, ys, h, hy => by simp [scl] at h; subst h; exact γs_nil.1 hy
  | v :: l, xs, ys, h, hy => by
    simp only [scl] at h
    split at h <;> try (simp at h; done)
    rename_i x hx
    split at h <;> try (simp at h; done)
    rename_i zs hz
    simp at h; subst h
    obtain ⟨y, ws, h1, h2, rfl⟩ := γs_cons.1 hy
    rw [scs_det hx h1, scl_det hz h2]

/-! ### Operands -/
/-- By the recursors themselves: the kernel takes fewer steps. -/
def nth (l : List AV) : Nat → AV := List.rec (motive := fun _ => Nat → AV) (fun _ => .tup []) (fun v _ ih n => Nat.rec (motive := fun _ => AV) v (fun m _ => ih m) n) l
theorem nth_eq : ∀ (l : List AV) (n : Nat), nth l n = l.getD n (.tup [])
  | [], n => rfl
  | v :: l, 0 => rfl
  | v :: l, n + 1 => (nth_eq l n).trans (by simp)
def setN (v : AV) (l : List AV) : Nat → List AV :=
  List.rec (motive := fun _ => Nat → List AV) (fun _ => []) (fun u l ih n => Nat.rec (motive := fun _ => List AV) (v :: l) (fun m _ => u :: ih m) n) l
theorem setN_eq (v : AV) : ∀ (l : List AV) (n : Nat), setN v l n = l.set n v
  | [], n => by cases n <;> rfl
  | u :: l, 0 => rfl
  | u :: l, n + 1 => by
    show u :: setN v l n = _
    rw [setN_eq v l n]; rfl
def ev (G : Nat) (A : List AV) : Operand → Option AV
  | .tmp t => some (nth A t)
  | .const v => cv 8 v
  | .global g => if g < G then some (.ptr g 0) else none
  | .func f => some (.func (.func f) [] [])
def evs (G : Nat) (A : List AV) : List Operand → Option (List AV)
  | [] => some []
  | x :: l => match ev G A x with
    | some v => match evs G A l with
      | some vs => some (v :: vs)
      | none => none
    | none => none
/-- The activation is what the list says; 'ds' are laid behind. -/
structure AR (ε : Env) (ds : List Deferred) (A : List AV) (a : Act) : Prop where
  tmps : γs ε A a.tmps.toList
  defers : a.defers = ds
theorem AR.mono {ε' : Env} (hle : ε.le ε') {ds : List Deferred} {A : List AV} {a : Act} (h : AR ε ds A a) : AR ε' ds A a := ⟨γs_mono hle _ _ h.tmps, h.defers⟩
theorem ev_γ (h : Rel G B w0 ε S w) {ds : List Deferred} {A : List AV} {a : Act} (ha : AR ε ds A a) {x : Operand} {v : AV} (he : ev G A x = some v) : γ ε v (a.eval x) := by
  cases x with
  | tmp t =>
    simp [ev, nth_eq] at he; subst he
    simp only [Act.eval]
    cases hg : A[t]? with
    | none =>
      have := γs_get_none ha.tmps hg
      have h2 : a.tmps[t]? = none := by simpa using this
      simp [Array.getD_eq_getD_getElem?, h2, γ, γs, undef, hg]
    | some v =>
      obtain ⟨y, h1, h2⟩ := γs_get ha.tmps hg
      have h3 : a.tmps[t]? = some y := by simpa using h1
      simp [List.getD, hg, Array.getD_eq_getD_getElem?, h3, h2]
  | const v => exact cv_sound ε 8 _ _ he
  | global g =>
    simp only [ev] at he
    split at he <;> simp at he
    rename_i hg
    subst he
    simp [γ, h.glob g hg, Act.eval]
  | func f => simp [ev] at he; subst he; simp [γ, γs, Act.eval]
theorem evs_γ (h : Rel G B w0 ε S w) {ds : List Deferred} {A : List AV} {a : Act} (ha : AR ε ds A a) : ∀ {l : List Operand} {vs : List AV}, evs G A l = some vs → γs ε vs (l.map a.eval)
  | [], vs, he => by simp [evs] at he; subst he; rfl
  | x :: l, vs, he => by
    simp only [evs] at he
    split at he <;> try (simp at he; done)
    rename_i v hv
    split at he <;> try (simp at he; done)
    rename_i us hu
    simp at he; subst he
    exact γs_cons.2 ⟨_, _, ev_γ h ha hv, evs_γ h ha hu, rfl⟩
def evo (G : Nat) (A : List AV) : Option Operand → Option (Option AV)
  | none => some none
  | some x => match ev G A x with
    | some v => some (some v)
    | none => none
theorem evo_γ (h : Rel G B w0 ε S w) {ds : List Deferred} {A : List AV} {a : Act} (ha : AR ε ds A a) {x : Option Operand} {v : Option AV} (he : evo G A x = some v) : γo ε v (x.map a.eval) := by
  cases x with
  | none => simp [evo] at he; subst he; rfl
  | some x =>
    simp only [evo] at he
    split at he <;> simp at he
    rename_i u hu
    subst he
    simp [γo, ev_γ h ha hu]
def evp (G : Nat) (A : List AV) : List (Nat × Operand) → Option (List (Nat × AV))
  | [] => some []
  | (i, x) :: l => match ev G A x with
    | some v => match evp G A l with
      | some vs => some ((i, v) :: vs)
      | none => none
    | none => none
theorem evp_γ (h : Rel G B w0 ε S w) {ds : List Deferred} {A : List AV} {a : Act} (ha : AR ε ds A a) : ∀ {l : List (Nat × Operand)} {vs : List (Nat × AV)}, evp G A l = some vs → γp ε vs (l.map fun (i, x) => (i, a.eval x))
  | [], vs, he => by simp [evp] at he; subst he; rfl
  | (i, x) :: l, vs, he => by
    simp only [evp] at he
    split at he <;> try (simp at he; done)
    rename_i v hv
    split at he <;> try (simp at he; done)
    rename_i us hu
    simp at he; subst he
    simp [γp, ev_γ h ha hv, evp_γ h ha hu]

/-! ### Builtins -/
def xLen (P : Program) (t : TypeId) (v : AV) : Option Nat :=
  match P.underlying t, v with
  | some .string, .str s => some s.length
  | some (.slice _), .slc _ _ len _ => some len
  | some (.slice _), .nilslc => some 0
  | some (.slice _), .snap _ _ len _ => some len
  | some (.map _ _), .nilmap => some 0
  | some (.array n _), _ => some n
  | _, _ => none
theorem len_run {t ty : TypeId} {v : AV} {x : Value} {n : Nat} (hv : γ ε v x) (hl : xLen P t v = some n) : (Builtin.len_ #[t] ty #[x]).run P w = .ok (.int .i64 n) w := by
  unfold xLen at hl
  split at hl <;> simp at hl
  · rename_i s ht
    subst hl
    simp only [γ] at hv
    obtain ⟨_, rfl⟩ := hv
    simp [Builtin.len_, run_underlying ht, goInt, bs_size]
  · rename_i e i off len c ht
    subst hl
    simp only [γ, Option.map_eq_some_iff] at hv
    obtain ⟨b, hb, rfl⟩ := hv
    simp [Builtin.len_, run_underlying ht, goInt]
  · rename_i e ht
    subst hl
    simp only [γ, Option.some.injEq] at hv
    subst hv
    simp [Builtin.len_, run_underlying ht, goInt]
  · rename_i e n0 z len f ht
    subst hl
    simp only [γ] at hv
    rcases hv with ⟨rfl, rfl, rfl⟩ | ⟨rfl, b, off, cap, sp, rfl, _⟩ <;> simp [Builtin.len_, run_underlying ht, goInt]
  · rename_i k e ht
    subst hl
    simp only [γ, Option.some.injEq] at hv
    subst hv
    simp [Builtin.len_, run_underlying ht, goInt]
  · rename_i n0 e ht
    subst hl
    simp [Builtin.len_, run_underlying ht, goInt]
def xCap (P : Program) (t : TypeId) (v : AV) : Option Nat :=
  match P.underlying t, v with
  | some (.slice _), .slc _ _ _ (.ex c) => some c
  | some (.slice _), .nilslc => some 0
  | some (.array n _), _ => some n
  | _, _ => none
theorem cap_run {t ty : TypeId} {v : AV} {x : Value} {n : Nat} (hv : γ ε v x) (hl : xCap P t v = some n) : (Builtin.cap_ #[t] ty #[x]).run P w = .ok (.int .i64 n) w := by
  unfold xCap at hl
  split at hl <;> simp at hl
  · rename_i e i off len c ht
    subst hl
    simp only [γ, Option.map_eq_some_iff] at hv
    obtain ⟨b, hb, rfl⟩ := hv
    simp [Builtin.cap_, run_underlying ht, goInt, capOf]
  · rename_i e ht
    subst hl
    simp only [γ, Option.some.injEq] at hv
    subst hv
    simp [Builtin.cap_, run_underlying ht, goInt]
  · rename_i n0 e ht
    subst hl
    simp [Builtin.cap_, run_underlying ht, goInt]

/-- unsafe.SliceData of a slice that has elements. -/
def xSliceData (v : AV) (S : St) : Option AV :=
  match v with
  | .slc i off (len + 1) c => if capOk S i off (len + 1) c then some (.ptr i off) else none
  | .nilslc => some .nilptr
  | _ => none
theorem sliceData_means (h : Rel G B w0 ε S w) {ts : Array TypeId} {ty : TypeId} {v u : AV} {x : Value} (hv : γ ε v x) (hl : xSliceData v S = some u) :
    MeansV G B w0 ε S ((Builtin.unsafeSliceData_ ts ty #[x]).run P w) u S := by
  unfold xSliceData at hl
  split at hl <;> try (simp at hl; done)
  · rename_i i off len c
    split at hl <;> simp at hl
    rename_i hc
    subst hl
    have := capOk_le h hc
    simp only [γ, Option.map_eq_some_iff] at hv
    obtain ⟨b, hb, rfl⟩ := hv
    exact MeansV.same h (Lib.run_unsafeSliceData_row w ts ty _ _ _ (by omega)) (by simp [γ, hb])
  · simp at hl; subst hl
    simp only [γ, Option.some.injEq] at hv
    subst hv
    exact MeansV.same h rfl rfl
end
end
end Go.Ex
/- The reflective executor, part 9: all operations. -/
namespace Go.Ex
noncomputable section
open Go.RowKit
section
variable {P : Program} {G B : Nat} {w0 w : World} {ε : Env} {S : St}

def xUnsafeStr (P : Program) (pt : TypeId) (v n : AV) (S : St) : Option (AV × St) :=
  match v, n with
  | .ptr i 0, .int .i64 (.ofNat (m + 1)) =>
    match S.get i, P.underlying pt with
    | some (.cells cs e opn wr), some (.pointer e') =>
      if wr.own && e' = e && P.cellsOf e == 1 && m + 1 ≤ cs.length && m + 1 ≤ 9223372036854775807 then
        match asBytes (cs.take (m + 1)) with
        | some r => some (.str r, S.put i (some (.cells cs e opn .mine)))
        | none => none
      else none
    | _, _ => none
  | _, .int .i64 0 => some (.str [], S)
  | _, _ => none
theorem unsafeStr_means (h : Rel G B w0 ε S w) {pt it ty : TypeId} {v n : AV} {x y : Value} {u : AV × St} (hv : γ ε v x) (hy : γ ε n y) (hp : ∃ p, x = .pointer p) (hl : xUnsafeStr P pt v n S = some u) :
    MeansV G B w0 ε S ((Builtin.unsafeString_ #[pt, it] ty #[x, y]).run P w) u.1 u.2 := by
  unfold xUnsafeStr at hl
  split at hl <;> try (simp at hl; done)
  · rename_i i m
    split at hl <;> try (simp at hl; done)
    rename_i cs e opn wr e' hget hpt
    split at hl <;> try (simp at hl; done)
    rename_i hc
    simp only [Bool.and_eq_true, decide_eq_true_eq, beq_iff_eq] at hc
    obtain ⟨⟨⟨⟨hwr, rfl⟩, hc1⟩, hc2⟩, hc3⟩ := hc
    split at hl <;> simp at hl
    rename_i r hr
    subst hl
    obtain ⟨b, o, h1, h2, ⟨xs, extra, fr, h3, h4, h5, h6⟩, h7⟩ := h.live _ _ hget
    subst h4
    obtain ⟨lo, hi⟩ := fr
    simp only [γ, h1, Option.some.injEq] at hv
    obtain ⟨b', hbb, rfl⟩ := hv
    subst hbb
    simp only [γ] at hy
    subst hy
    have hxl := γs_length h3
    obtain ⟨e1, e2, e3⟩ := asBytes_spec hr (γs_take h3 (m + 1))
    have hrl : r.length = m + 1 := by rw [e2]; simp; omega
    have hbytes : (bs r).data.toList = r.map UInt8.ofNat := bs_data r
    have hrun := Lib.run_unsafeString_row (P := P) w pt it ty e' hpt hc1 b (xs ++ extra).length (by simp [World.shape?, h2]) (r.map UInt8.ofNat) (by intro h0; have := congrArg List.length h0; simp [hrl] at this)
      (by simp only [List.length_map, hrl, List.length_append, hxl]; omega) (by simp only [List.length_map, hrl]; omega)
      (fun j c hj => by
        rw [Addr.add_lit, Nat.zero_add]
        simp only [List.getElem?_map, Option.map_eq_some_iff] at hj
        obtain ⟨q, hq, rfl⟩ := hj
        have hq256 : q < 256 := by
          simp only [okb, List.all_eq_true, decide_eq_true_eq] at e1
          exact e1 q (List.mem_of_getElem? hq)
        have hjl : j < m + 1 := by rw [← hrl]; exact (List.getElem?_eq_some_iff.1 hq).1
        have hx : (xs.take (m + 1))[j]? = some (.int .u8 (q : Int)) := by rw [e3]; simp [hq]
        rw [List.getElem?_take, if_pos hjl] at hx
        have hjx : j < xs.length := (List.getElem?_eq_some_iff.1 hx).1
        simp [World.cell?, h2, List.getElem?_append_left hjx, hx, Nat.mod_eq_of_lt hq256])
    simp only [List.length_map, hrl] at hrun
    have hstr : (⟨(r.map UInt8.ofNat).toArray⟩ : ByteArray) = bs r := rfl
    rw [hstr] at hrun
    refine ⟨_, _, ε, hrun, Env.agr_refl _ _, by simp [γ, e1], ?_, by simp [St.put]⟩
    have hfz : ∃ fr', (w.freeze ⟨b, 0, none⟩ (m + 1)).heap[b]? = some (.cells (xs ++ extra).toArray e' fr') := by
      have hlt := (Array.getElem?_eq_some_iff.1 h2).1
      have hbv := (Array.getElem?_eq_some_iff.1 h2).2
      unfold World.freeze
      rw [if_neg (by omega)]
      simp only [Array.getElem?_modify, if_true, h2, Option.map_some]
      exact ⟨_, rfl⟩
    obtain ⟨fr', hfr'⟩ := hfz
    refine h.setBlk hget hwr h1 ⟨?_, ?_, ?_, ?_⟩ ?_ hfr' ⟨xs, extra, fr', h3, rfl, by simp, h6⟩
    · unfold World.freeze; split <;> rfl
    · unfold World.freeze; split <;> rfl
    · unfold World.freeze; split <;> rfl
    · unfold World.freeze; split <;> simp
    · intro k hk
      unfold World.freeze
      split
      · rfl
      · simp only [Array.getElem?_modify]
        rw [if_neg (by omega)]
  · simp at hl; subst hl
    simp only [γ, Option.some.injEq] at hy
    subst hy
    obtain ⟨p, rfl⟩ := hp
    exact MeansV.same h (Lib.run_unsafeString_none w pt it ty p) (by simp only [γ]; exact ⟨rfl, rfl⟩)

def isIntT (P : Program) (t : TypeId) : Bool :=
  match P.underlying t with
  | some (.int _) => true
  | _ => false
def xBuiltin (P : Program) (b : Builtin) (ts : Array TypeId) (ty : TypeId) (args : List AV) (S : St) : Option (AV × St) :=
  match b, ts.toList, args with
  | .len, [t], [v] => match xLen P t v with
    | some n => some (.int .i64 n, S)
    | none => none
  | .cap, [t], [v] => match xCap P t v with
    | some n => some (.int .i64 n, S)
    | none => none
  | .append, [t, xt], [s, x] => xAppend P t xt s x S
  | .unsafeSliceData, _, [v] => match xSliceData v S with
    | some u => some (u, S)
    | none => none
  | .unsafeString, [pt, _], [.ptr i off, n] => xUnsafeStr P pt (.ptr i off) n S
  | .unsafeString, [pt, _], [.nilptr, n] => xUnsafeStr P pt .nilptr n S
  | .max, _, _ => match scl args with
    | some xs => match pureM P (Builtin.max_ ts ty xs.toArray) with
      | some v => match cv 2 v with
        | some u => some (u, S)
        | none => none
      | none => none
    | none => none
  | .min, _, _ => match scl args with
    | some xs => match pureM P (Builtin.min_ ts ty xs.toArray) with
      | some v => match cv 2 v with
        | some u => some (u, S)
        | none => none
      | none => none
    | none => none
  | _, _, _ => none
theorem arr_of_list {α : Type} {a : Array α} {l : List α} (h : a.toList = l) : a = l.toArray := by rw [← h]
theorem builtin_means (h : Rel G B w0 ε S w) {b : Builtin} {ts : Array TypeId} {ty : TypeId} {cs : Array Bool} {args : List AV} {xs : List Value} {u : AV × St} (hx : γs ε args xs) (hl : xBuiltin P b ts ty args S = some u) :
    Means G B w0 ε S ((builtin b ts ty cs xs.toArray).run P w) (.val u.1 u.2) := by
  unfold xBuiltin at hl
  split at hl <;> try (simp at hl; done)
  · rename_i t v hts
    have hts := arr_of_list hts
    split at hl <;> simp at hl
    rename_i n hn
    subst hl; subst hts
    obtain ⟨x, ys, h1, h2, rfl⟩ := γs_cons.1 hx
    rw [γs_nil] at h2; subst h2
    exact Means.of_v (MeansV.same h (len_run h1 hn) rfl)
  · rename_i t v hts
    have hts := arr_of_list hts
    split at hl <;> simp at hl
    rename_i n hn
    subst hl; subst hts
    obtain ⟨x, ys, h1, h2, rfl⟩ := γs_cons.1 hx
    rw [γs_nil] at h2; subst h2
    exact Means.of_v (MeansV.same h (cap_run h1 hn) rfl)
  · rename_i t xt s x hts
    have hts := arr_of_list hts
    subst hts
    obtain ⟨p, ys, h1, h2, rfl⟩ := γs_cons.1 hx
    obtain ⟨q, ys, h3, h4, rfl⟩ := γs_cons.1 h2
    rw [γs_nil] at h4; subst h4
    exact Means.of_v (append_means h h1 h3 hl)
  · rename_i v
    split at hl <;> simp at hl
    rename_i u' hu
    subst hl
    obtain ⟨x, ys, h1, h2, rfl⟩ := γs_cons.1 hx
    rw [γs_nil] at h2; subst h2
    exact Means.of_v (sliceData_means h h1 hu)
  · rename_i pt it i off n hts
    have hts := arr_of_list hts
    subst hts
    obtain ⟨p, ys, h1, h2, rfl⟩ := γs_cons.1 hx
    obtain ⟨q, ys, h3, h4, rfl⟩ := γs_cons.1 h2
    rw [γs_nil] at h4; subst h4
    have hp : ∃ p', p = .pointer p' := by
      simp only [γ, Option.map_eq_some_iff] at h1
      obtain ⟨b', _, rfl⟩ := h1
      exact ⟨_, rfl⟩
    exact Means.of_v (unsafeStr_means h h1 h3 hp hl)
  · rename_i pt it n hts
    have hts := arr_of_list hts
    subst hts
    obtain ⟨p, ys, h1, h2, rfl⟩ := γs_cons.1 hx
    obtain ⟨q, ys, h3, h4, rfl⟩ := γs_cons.1 h2
    rw [γs_nil] at h4; subst h4
    have hp : ∃ p', p = .pointer p' := by
      simp only [γ, Option.some.injEq] at h1
      exact ⟨none, h1⟩
    exact Means.of_v (unsafeStr_means h h1 h3 hp hl)
  · split at hl <;> try (simp at hl; done)
    rename_i ys hys
    have := scl_det hys hx
    subst this
    split at hl <;> try (simp at hl; done)
    rename_i v hv
    split at hl <;> simp at hl
    rename_i u' hu
    subst hl
    exact Means.of_v (MeansV.same h (pureM_run hv w) (cv_sound ε 2 v u' hu))
  · split at hl <;> try (simp at hl; done)
    rename_i ys hys
    have := scl_det hys hx
    subst this
    split at hl <;> try (simp at hl; done)
    rename_i v hv
    split at hl <;> simp at hl
    rename_i u' hu
    subst hl
    exact Means.of_v (MeansV.same h (pureM_run hv w) (cv_sound ε 2 v u' hu))

/-! ### Conversions -/
def xConv (P : Program) (src dst : TypeId) (v : AV) (S : St) : Option (AV × St) :=
  match sc v with
  | some x => match pureM P (convert src dst x) with
    | some y => match cv 2 y with
      | some u => some (u, S)
      | none => none
    | none => none
  | none =>
    match P.underlying src, P.underlying dst, v with
    | some .string, some .string, .str s => some (.str s, S)
    | some .string, some (.slice e), .str s => match P.underlying e with
      | some (.int .u8) => some (xToBytes e s S)
      | _ => none
    | some (.slice e), some .string, v => match P.underlying e with
      | some (.int .u8) => match xOfBytes v S with
        | some u => some (u, S)
        | none => none
      | _ => none
    | some (.pointer _), some .unsafePointer, .nilptr => some (.nilptr, S)
    | some .unsafePointer, some (.pointer _), .nilptr => some (.nilptr, S)
    | some (.pointer t), some .unsafePointer, .ptr i off => match S.get i, sizeT P t with
      | some (.cells cs _ _ _), some (_ + 1) => if off < cs.length then some (.ptr i off, S) else none
      | _, _ => none
    | some .unsafePointer, some (.pointer u), .ptr i off => match S.get i, sizeT P u with
      | some (.cells cs e none _), some (_ + 1) =>
        if liesAt P P.depth e (cs.length / P.cellsOf e) off u 1 then some (.ptr i off, S) else none
      | _, _ => none
    | _, _, _ => none
theorem viewAt_cells {b : Nat} {c : Array Value} {e : TypeId} {fr : Nat × Nat} (hb : w.heap[b]? = some (.cells c e fr)) : (viewAt b).run P w = .ok none w := by
  simp [viewAt, World.shape?, hb]
theorem cellsIn_cells {b : Nat} {c : Array Value} {e : TypeId} {fr : Nat × Nat} (hb : w.heap[b]? = some (.cells c e fr)) : (cellsIn b).run P w = .ok (some c.size) w := by
  simp [cellsIn, World.shape?, hb]
theorem conv_means (h : Rel G B w0 ε S w) {src dst : TypeId} {v : AV} {x : Value} {u : AV × St} (hv : γ ε v x) (hl : xConv P src dst v S = some u) :
    MeansV G B w0 ε S ((convert src dst x).run P w) u.1 u.2 := by
  unfold xConv at hl
  split at hl
  · rename_i x' hx'
    have e := sc_γ hx' hv
    subst e
    split at hl <;> try (simp at hl; done)
    rename_i y hy
    split at hl <;> simp at hl
    rename_i u' hu
    subst hl
    exact MeansV.same h (pureM_run hy w) (cv_sound ε 2 y u' hu)
  · split at hl <;> try (simp at hl; done)
    · rename_i s h1 h2 _
      simp at hl; subst hl
      have hv' := hv
      simp only [γ] at hv
      obtain ⟨_, rfl⟩ := hv
      exact MeansV.same h (by simp [convert, run_underlying h1, run_underlying h2]) hv'
    · rename_i e s h1 h2 _
      split at hl <;> simp at hl
      rename_i h3
      subst hl
      simp only [γ] at hv
      obtain ⟨hs, rfl⟩ := hv
      exact toBytes_means h h1 h2 h3 hs
    · rename_i e h1 h2 _
      split at hl <;> try (simp at hl; done)
      rename_i h3
      split at hl <;> simp at hl
      rename_i u' hu
      subst hl
      exact ofBytes_means h h1 h2 h3 hv hu
    · rename_i t h1 h2 _
      simp at hl; subst hl
      simp only [γ, Option.some.injEq] at hv
      subst hv
      exact MeansV.same h (by simp [convert, run_underlying h1, run_underlying h2, Conv.unsafePointer]) rfl
    · rename_i t h1 h2 _
      simp at hl; subst hl
      simp only [γ, Option.some.injEq] at hv
      subst hv
      exact MeansV.same h (by simp [convert, run_underlying h1, run_underlying h2, Conv.unsafePointer]) rfl
    · rename_i t i off h1 h2 _
      split at hl <;> try (simp at hl; done)
      rename_i cs e opn wr n hget hn
      split at hl <;> simp at hl
      rename_i hoff
      subst hl
      obtain ⟨b, o, h3, h4, ⟨xs, extra, fr, h5, h6, _⟩, _⟩ := h.live _ _ hget
      subst h6
      have hxl := γs_length h5
      have hv' := hv
      simp only [γ, h3, Option.some.injEq] at hv
      obtain ⟨b', hbb, rfl⟩ := hv
      subst hbb
      refine MeansV.same h ?_ hv'
      have hlt : ¬ ((xs ++ extra).length ≤ off) := by simp; omega
      simp [convert, run_underlying h1, run_underlying h2, Conv.unsafePointer, Conv.seenAt, viewAt_cells h4, cellsIn_cells h4, run_sizeT hn]
      simp at hlt
      omega
    · rename_i t i off h1 h2 _
      split at hl <;> try (simp at hl; done)
      rename_i cs e wr n hget hn
      split at hl <;> simp at hl
      rename_i hlies
      subst hl
      obtain ⟨b, o, h3, h4, ⟨xs, extra, fr, h5, h6, _, h7⟩, _⟩ := h.live _ _ hget
      subst h6
      have hex : extra = [] := h7
      subst hex
      have hxl := γs_length h5
      have hv' := hv
      simp only [γ, h3, Option.some.injEq] at hv
      obtain ⟨b', hbb, rfl⟩ := hv
      subst hbb
      refine MeansV.same h ?_ hv'
      have hsh : w.shape? b = some (e, xs.length) := by simp [World.shape?, h4]
      rw [← hxl] at hlies
      simp [convert, run_underlying h1, run_underlying h2, Conv.unsafePointer, Conv.seenAt, viewAt_cells h4, run_sizeT hn, variablesAt, hsh, hlies]
end
end
end Go.Ex
/- The reflective executor, part 10: one operation of whatever kind. -/
namespace Go.Ex
noncomputable section
open Go.RowKit
section
variable {P : Program} {G B : Nat} {w0 w : World} {ε : Env} {S : St}

def funcOk (P : Program) (f : FuncId) : Bool :=
  match P.funcs[f]? with
  | some fn => fn.body.isSome && !(fn.name == "runtime.NumGoroutine")
  | none => false
theorem callFunc_enter {f : FuncId} (h : funcOk P f = true) (args : Array Value) : (callFunc f args).run P w = .ok (.enter f args) w := by
  unfold funcOk at h
  split at h <;> try (simp at h; done)
  rename_i fn hf
  simp only [Bool.and_eq_true, Bool.not_eq_true'] at h
  obtain ⟨h1, h2⟩ := h
  have h3 : fn.body.isNone = false := by cases hb : fn.body <;> simp [hb] at h1 ⊢
  simp only [callFunc, Sem.run_bind, run_program, Result.andThen_ok, hf, h2, h3, Bool.false_eq_true, if_false, Sem.run_pure]
mutual
/-- A closed value: no address but of package-level variables and type handles. -/
def clo (G : Nat) : AV → Option Value
  | .int k n => some (.int k n)
  | .bool b => some (.bool b)
  | .flt k n => some (.float k n)
  | .str s => if okb s then some (.string (bs s)) else none
  | .ptr i off => if i < G then some (.pointer (some ⟨i, off, none⟩)) else none
  | .nilptr => some (.pointer none)
  | .nilslc => some (.slice none 0 0)
  | .nilmap => some (.map none)
  | .nilfunc => some .nilFunc
  | .niliface => some .nilIface
  | .iface t v => match clo G v with
    | some x => some (.iface t x)
    | none => none
  | .agg l => match clos G l with
    | some xs => some (.agg xs.toArray)
    | none => none
  | .tup l => match clos G l with
    | some xs => some (.tuple xs.toArray)
    | none => none
  | _ => none
def clos (G : Nat) : List AV → Option (List Value)
  | [] => some []
  | v :: l => match clo G v with
    | some x => match clos G l with
      | some xs => some (x :: xs)
      | none => none
    | none => none
end
mutual
theorem clo_γ (hg : ∀ g, g < G → ε.δ g = some g) : ∀ (v : AV) (x : Value), clo G v = some x → γ ε v x
  | .int k n, x, h => by simp [clo] at h; simp [γ, h]
  | .bool b, x, h => by simp [clo] at h; simp [γ, h]
  | .flt k n, x, h => by simp [clo] at h; simp [γ, h]
  | .str s, x, h => by simp [clo] at h; simp [γ, h]
  | .ptr i off, x, h => by
    simp only [clo] at h
    split at h <;> simp at h
    rename_i hi
    simp [γ, hg i hi, h]
  | .nilptr, x, h => by simp [clo] at h; simp [γ, h]
  | .nilslc, x, h => by simp [clo] at h; simp [γ, h]
  | .nilmap, x, h => by simp [clo] at h; simp [γ, h]
  | .nilfunc, x, h => by simp [clo] at h; simp [γ, h]
  | .niliface, x, h => by simp [clo] at h; simp [γ, h]
  | .slc i off len c, x, h => by simp [clo] at h
  | .yld i, x, h => by simp [clo] at h
  | .zs .., x, h => by simp [clo] at h
  | .any, x, h => by simp [clo] at h
  | .sb b, x, h => by simp [clo] at h
  | .snap .., x, h => by simp [clo] at h
  | .pin .., x, h => by simp [clo] at h
  | .func fn a c, x, h => by simp [clo] at h
  | .iface t v, x, h => by
    simp only [clo] at h
    split at h <;> simp at h
    rename_i y hy
    exact ⟨y, clo_γ hg v y hy, h.symm⟩
  | .agg l, x, h => by
    simp only [clo] at h
    split at h <;> simp at h
    rename_i y hy
    exact ⟨y, clos_γ hg l y hy, h.symm⟩
  | .tup l, x, h => by
    simp only [clo] at h
    split at h <;> simp at h
    rename_i y hy
    exact ⟨y, clos_γ hg l y hy, h.symm⟩
theorem clos_γ (hg : ∀ g, g < G → ε.δ g = some g) : ∀ (l : List AV) (xs : List Value), clos G l = some xs → γs ε l xs
  | [], xs, h => by simp [clos] at h; subst h; rfl
  | v :: l, xs, h => by
    simp only [clos] at h
    split at h <;> try (simp at h; done)
    rename_i x hx
    split at h <;> simp at h
    rename_i ys hy
    subst h
    exact γs_cons.2 ⟨x, ys, clo_γ hg v x hx, clos_γ hg l ys hy, rfl⟩
end
mutual
theorem clo_det (hg : ∀ g, g < G → ε.δ g = some g) : ∀ (v : AV) (x y : Value), clo G v = some x → γ ε v y → y = x
  | .int k n, x, y, h, hy => by simp [clo] at h; simp [γ] at hy; simp_all
  | .bool b, x, y, h, hy => by simp [clo] at h; simp [γ] at hy; simp_all
  | .flt k n, x, y, h, hy => by simp [clo] at h; simp [γ] at hy; simp_all
  | .str s, x, y, h, hy => by simp [clo] at h; simp [γ] at hy; simp_all
  | .ptr i off, x, y, h, hy => by
    simp only [clo] at h
    split at h <;> simp at h
    rename_i hi
    simp only [γ, hg i hi, Option.some.injEq] at hy
    obtain ⟨b, hb, rfl⟩ := hy
    subst hb; exact h
  | .nilptr, x, y, h, hy => by simp [clo] at h; simp [γ] at hy; simp_all
  | .nilslc, x, y, h, hy => by simp [clo] at h; simp [γ] at hy; simp_all
  | .nilmap, x, y, h, hy => by simp [clo] at h; simp [γ] at hy; simp_all
  | .nilfunc, x, y, h, hy => by simp [clo] at h; simp [γ] at hy; simp_all
  | .niliface, x, y, h, hy => by simp [clo] at h; simp [γ] at hy; simp_all
  | .slc i off len c, x, y, h, hy => by simp [clo] at h
  | .yld i, x, y, h, hy => by simp [clo] at h
  | .zs .., x, y, h, hy => by simp [clo] at h
  | .any, x, y, h, hy => by simp [clo] at h
  | .sb b, x, y, h, hy => by simp [clo] at h
  | .snap .., x, y, h, hy => by simp [clo] at h
  | .pin .., x, y, h, hy => by simp [clo] at h
  | .func fn a c, x, y, h, hy => by simp [clo] at h
  | .iface t v, x, y, h, hy => by
    simp only [clo] at h
    split at h <;> simp at h
    rename_i z hz
    simp only [γ] at hy
    obtain ⟨z', h1, rfl⟩ := hy
    rw [clo_det hg v z z' hz h1]; exact h
  | .agg l, x, y, h, hy => by
    simp only [clo] at h
    split at h <;> simp at h
    rename_i z hz
    simp only [γ] at hy
    obtain ⟨z', h1, rfl⟩ := hy
    rw [clos_det hg l z z' hz h1]; exact h
  | .tup l, x, y, h, hy => by
    simp only [clo] at h
    split at h <;> simp at h
    rename_i z hz
    simp only [γ] at hy
    obtain ⟨z', h1, rfl⟩ := hy
    rw [clos_det hg l z z' hz h1]; exact h
theorem clos_det (hg : ∀ g, g < G → ε.δ g = some g) : ∀ (l : List AV) (xs ys : List Value), clos G l = some xs → γs ε l ys → ys = xs
  | [], xs, ys, h, hy => by simp [clos] at h; subst h; exact γs_nil.1 hy
  | v :: l, xs, ys, h, hy => by
    simp only [clos] at h
    split at h <;> try (simp at h; done)
    rename_i x hx
    split at h <;> simp at h
    rename_i zs hz
    subst h
    obtain ⟨y, ws, h1, h2, rfl⟩ := γs_cons.1 hy
    rw [clo_det hg v x y hx h1, clos_det hg l zs ws hz h2]
end
def cvg (G : Nat) : Nat → Value → Option AV
  | 0, _ => none
  | n + 1, v => match v with
    | .pointer (some ⟨b, off, none⟩) => if b < G then some (.ptr b off) else none
    | .iface t v => match cvg G n v with
      | some u => some (.iface t u)
      | none => none
    | .agg cs => match cvs (cvg G n) cs.toList with | some l => some (.agg l) | none => none
    | .tuple cs => match cvs (cvg G n) cs.toList with | some l => some (.tup l) | none => none
    | v => cv 2 v
theorem cvg_sound (hg : ∀ g, g < G → ε.δ g = some g) : ∀ (n : Nat) (v : Value) (u : AV), cvg G n v = some u → γ ε u v
  | 0, v, u, h => by simp [cvg] at h
  | n + 1, v, u, h => by
    simp only [cvg] at h
    split at h
    · split at h <;> simp at h
      rename_i b off hb
      subst h
      simp [γ, hg b hb]
    · split at h <;> simp at h
      rename_i x hx
      subst h
      simp [γ, cvg_sound hg n _ _ hx]
    · split at h <;> simp at h
      rename_i l hl
      subst h
      have := cvs_sound (ε := ε) (cvg_sound hg n) _ _ hl
      exact ⟨_, this, by simp⟩
    · split at h <;> simp at h
      rename_i l hl
      subst h
      have := cvs_sound (ε := ε) (cvg_sound hg n) _ _ hl
      exact ⟨_, this, by simp⟩
    · exact cv_sound ε 2 _ _ h

/-- Handlers of functions without a body. -/
abbrev Ext := FuncId → List AV → St → Option NX
def EOk (P : Program) (G : Nat) (E : Ext) : Prop := ∀ (B : Nat) (w0 : World) (ε : Env) (S : St) (w : World) (f : FuncId) (args : List AV) (xs : List Value) (n : NX),
  Rel G B w0 ε S w → γs ε args xs → E f args S = some n → Means G B w0 ε S ((callFunc f xs.toArray).run P w) n
/-- A call of function f. -/
def xEnter (P : Program) (G : Nat) (E : Ext) (f : FuncId) (args : List AV) (S : St) : Option NX :=
  if funcOk P f then some (.enter f args S)
  else match E f args S with
  | some n => some n
  | none => match clos G args with
    | some xs => match pureM P (callFunc f xs.toArray) with
      | some (.value v) => match cvg G 4 v with
        | some u => some (.val u S)
        | none => none
      | _ => none
    | none => none
theorem enter_means (h : Rel G B w0 ε S w) {E : Ext} (hE : EOk P G E) {f : FuncId} {args : List AV} {xs : List Value} {n : NX} (hx : γs ε args xs) (hl : xEnter P G E f args S = some n) :
    Means G B w0 ε S ((callFunc f xs.toArray).run P w) n := by
  unfold xEnter at hl
  split at hl
  · rename_i hf
    simp at hl; subst hl
    exact ⟨xs, w, ε, callFunc_enter hf _, Env.agr_refl _ _, hx, h, Nat.le_refl _⟩
  · split at hl
    · rename_i n' hn
      simp at hl; subst hl
      exact hE B w0 ε S w f args xs n' h hx hn
    · split at hl <;> try (simp at hl; done)
      rename_i ys hys
      have := clos_det (ε := ε) h.glob args ys xs hys hx
      subst this
      split at hl <;> try (simp at hl; done)
      rename_i v hv
      split at hl <;> simp at hl
      rename_i u hu
      subst hl
      exact ⟨v, w, ε, pureM_run hv w, Env.agr_refl _ _, cvg_sound h.glob 4 v u hu, h, Nat.le_refl _⟩

def xFollow (P : Program) : List FieldStep → TypeId → AV → Option (TypeId × AV)
  | [], t, v => some (t, v)
  | s :: rest, _, v =>
    if s.deref then none else match v, fieldT P s.struct s.index with
    | .agg cs, some f => match xPart P f.type cs f.offset with
      | some u => xFollow P rest f.type u
      | none => none
    | _, _ => none
theorem follow_run : ∀ {l : List FieldStep} {t t' : TypeId} {v u : AV} {x : Value}, γ ε v x → xFollow P l t v = some (t', u) →
    ∃ y, γ ε u y ∧ ∀ w, (follow l t (.val x)).run P w = .ok (t', .val y) w
  | [], t, t', v, u, x, hv, h => by
    simp [xFollow] at h
    obtain ⟨rfl, rfl⟩ := h
    exact ⟨x, hv, fun w => rfl⟩
  | s :: rest, t, t', v, u, x, hv, h => by
    simp only [xFollow] at h
    split at h <;> try (simp at h; done)
    rename_i hd
    split at h <;> try (simp at h; done)
    rename_i cs f hf
    split at h <;> try (simp at h; done)
    rename_i u' hu'
    obtain ⟨fs, h1, h2⟩ := fieldT_spec hf
    simp only [γ, Option.map_eq_some_iff] at hv
    obtain ⟨xs, hxs, rfl⟩ := hv
    obtain ⟨y, h3, h4⟩ := part_means (P := P) (xs := xs.toArray) (by simpa using hxs) hu'
    obtain ⟨z, h5, h6⟩ := follow_run h4 h
    refine ⟨z, h5, fun w => ?_⟩
    simp [follow, run_underlying h1, h2, hd, h3, h6]
def xMethod (P : Program) (t : TypeId) (v : AV) (name : String) : Option (FuncId × AV) :=
  match P.info? t with
  | some i => match i.methods.find? (·.name == name) with
    | some m => match xFollow P m.path.toList t v with
      | some (xt, u) => match m.func, P.underlying xt with
        | some (f, true), some (.pointer _) => some (f, u)
        | some (_, false), some (.pointer _) => none
        | some (f, false), some _ => some (f, u)
        | _, _ => none
      | none => none
    | none => none
  | none => none
theorem method_run {t : TypeId} {v u : AV} {x : Value} {name : String} {f : FuncId} (hv : γ ε v x) (h : xMethod P t v name = some (f, u)) :
    ∃ y, γ ε u y ∧ (method (P.types.size + Made.depth) t x name).run P w = .ok (f, y) w := by
  unfold xMethod at h
  split at h <;> try (simp at h; done)
  rename_i i hi
  split at h <;> try (simp at h; done)
  rename_i m hm
  split at h <;> try (simp at h; done)
  rename_i xt u' hfo
  obtain ⟨y, hy, hfr⟩ := follow_run hv hfo
  obtain ⟨k, hk⟩ : ∃ k, P.types.size + Made.depth = k + 1 := ⟨P.types.size + Made.depth - 1, by unfold Made.depth; omega⟩
  rw [hk]
  split at h <;> simp at h
  · rename_i f' e hf ht
    obtain ⟨rfl, rfl⟩ := h
    refine ⟨y, hy, ?_⟩
    simp only [method, Sem.run_bind, typeInfo, run_program, Result.andThen_ok, hi, Sem.run_pure, hm, hfr, hf, receiverAt, run_underlying ht]
    simp [Place.get]
  · rename_i f' d hne hf ht
    obtain ⟨rfl, rfl⟩ := h
    refine ⟨y, hy, ?_⟩
    simp only [method, Sem.run_bind, typeInfo, run_program, Result.andThen_ok, hi, Sem.run_pure, hm, hfr, hf, receiverAt, run_underlying ht]
    cases d <;> first | (exact absurd rfl (hne _)) | simp [Place.get]

/-- The parameters of a round set. -/
def setAll : List (Tmp × AV) → List AV → List AV
  | [], A => A
  | (t, v) :: l, A => setAll l (A.set t v)
theorem setAll_γ : ∀ {ps : List Tmp} {args : List AV} {xs : List Value} {A : List AV} {ys : Array Value}, γs ε args xs → γs ε A ys.toList →
    γs ε (setAll (ps.zip args) A) ((ps.zip xs).foldl (fun tmps (t, a) => tmps.setIfInBounds t a) ys).toList
  | [], args, xs, A, ys, hx, hA => by simpa [setAll] using hA
  | p :: ps, [], xs, A, ys, hx, hA => by
    rw [γs_nil] at hx; subst hx
    simpa [setAll] using hA
  | p :: ps, v :: args, xs, A, ys, hx, hA => by
    obtain ⟨x, xs', h1, h2, rfl⟩ := γs_cons.1 hx
    simp only [List.zip_cons_cons, setAll, List.foldl_cons]
    exact setAll_γ h2 (by simpa using γs_set hA p h1)
theorem invoke_method (name : String) (x : Value) (l : List Value) : invoke (.fn (.method name) #[]) (x :: l).toArray = callMethod x name l.toArray := by simp [invoke]
def xCall (P : Program) (G : Nat) (E : Ext) (A : List AV) (S : St) (c : Call) (ty : TypeId) : Option NX :=
  match evs G A c.args.toList with
  | some args =>
    match c.callee with
    | .builtin b => match xBuiltin P b c.argTypes ty args S with
      | some (u, S') => some (.val u S')
      | none => none
    | .value f => match ev G A f with
      | some (.func (.func g) first captured) => xEnter P G E g (first ++ args ++ captured) S
      | some (.yld i) => match S.get i with
        | some (.lp _ _ A' ps assign body _) => if args.length = ps.size then some (.round i (setAll (ps.toList.zip args) A') assign body S) else none
        | _ => none
      | _ => none
    | .invoke r name => match ev G A r with
      | some (.iface t v) => match xMethod P t v name with
        | some (f, u) => xEnter P G E f (u :: args) S
        | none => none
      | _ => none
  | none => none
theorem call_means (h : Rel G B w0 ε S w) {E : Ext} (hE : EOk P G E) {ds : List Deferred} {A : List AV} {a : Act} (ha : AR ε ds A a) {c : Call} {ty : TypeId} {n : NX} (hl : xCall P G E A S c ty = some n) :
    Means G B w0 ε S ((do let d ← resolve a.eval c ty; invoke d.target d.args : Sem Next).run P w) n := by
  unfold xCall at hl
  split at hl <;> try (simp at hl; done)
  rename_i args hargs
  have hx := evs_γ h ha hargs
  have hmap : (c.args.map a.eval) = (c.args.toList.map a.eval).toArray := by apply Array.ext'; simp
  split at hl
  · rename_i b hb
    split at hl <;> simp at hl
    rename_i u S' hu
    subst hl
    have := builtin_means (cs := c.args.map fun | .const _ => true | _ => false) h hx hu
    have e : ((do let d ← resolve a.eval c ty; invoke d.target d.args : Sem Next).run P w) = (builtin b c.argTypes ty (c.args.map fun | .const _ => true | _ => false) (c.args.toList.map a.eval).toArray).run P w := by
      simp only [resolve, hb, Sem.run_bind, Sem.run_pure, Result.andThen_ok, invoke, hmap]
      rfl
    rw [e]
    exact this
  · rename_i f hf
    split at hl <;> try (simp at hl; done)
    case h_2 =>
      rename_i i hev
      split at hl <;> try (simp at hl; done)
      rename_i st pend A' ps assign body D hget
      split at hl <;> simp at hl
      rename_i hlen
      subst hl
      have hfv := ev_γ h ha hev
      simp only [γ, Option.map_eq_some_iff] at hfv
      obtain ⟨l, h1, h2⟩ := hfv
      obtain ⟨b, o, h3, h4, ⟨fn, xs, d, h5, h6, rfl⟩, _⟩ := h.live _ _ hget
      rw [h1] at h3
      simp at h3
      subst h3
      have e : ((do let d ← resolve a.eval c ty; invoke d.target d.args : Sem Next).run P w) = (Instr.yield l (c.args.toList.map a.eval).toArray).run P w := by
        simp only [resolve, hf, Sem.run_bind, h2, Deferred.ofValue, Sem.run_pure, Result.andThen_ok, invoke, hmap]
        simp
      rw [e, run_yield h4 (by simp [← hlen, ← γs_length hx])]
      have hA := setAll_γ (ps := ps.toList) (args := args) (ys := xs.toArray) hx (by simpa using h5)
      refine ⟨l, fn, _, w, ε, ?_, Env.agr_refl _ _, h1, hA, h, Nat.le_refl _⟩
      simp only [Result.ok.injEq, Next.round.injEq, and_self, and_true, true_and]
      have : ps.zip (c.args.toList.map a.eval).toArray = (ps.toList.zip (c.args.toList.map a.eval)).toArray := by apply Array.ext'; simp
      rw [this]
      simp
    rename_i g first captured hev
    have hfv := ev_γ h ha hev
    simp only [γ, Option.bind_eq_some_iff, Option.map_eq_some_iff] at hfv
    obtain ⟨xs, h1, ys, h2, h3⟩ := hfv
    have := enter_means h hE (γs_append (γs_append h1 hx) h2) hl
    have e : ((do let d ← resolve a.eval c ty; invoke d.target d.args : Sem Next).run P w) = (callFunc g (xs ++ c.args.toList.map a.eval ++ ys).toArray).run P w := by
      simp only [resolve, hf, Sem.run_bind, h3, Deferred.ofValue, Sem.run_pure, Result.andThen_ok, invoke, hmap]
      simp
    rw [e]
    exact this
  · rename_i r name hr
    split at hl <;> try (simp at hl; done)
    rename_i t v hev
    split at hl <;> try (simp at hl; done)
    rename_i f u hm
    have hrv := ev_γ h ha hev
    simp only [γ, Option.map_eq_some_iff] at hrv
    obtain ⟨y, h1, h2⟩ := hrv
    obtain ⟨z, h4, h3⟩ := method_run (w := w) h1 hm
    have := enter_means h hE (γs_cons.2 ⟨z, _, h4, hx, rfl⟩) hl
    have e : ((do let d ← resolve a.eval c ty; invoke d.target d.args : Sem Next).run P w) = (callFunc f (z :: c.args.toList.map a.eval).toArray).run P w := by
      have e2 : #[a.eval r] ++ c.args.map a.eval = (a.eval r :: c.args.toList.map a.eval).toArray := by rw [hmap]; simp
      simp only [resolve, hr, Sem.run_bind, Sem.run_pure, Result.andThen_ok, e2, invoke_method]
      rw [h2]
      simp only [callMethod, Sem.run_bind, run_program, Result.andThen_ok, h3]
      congr 2
      simp
    rw [e]
    exact this

def xNil : AV → Bool
  | .ptr _ _ | .iface _ _ => true
  | .func (.func _) _ _ => true
  | _ => false
def xAssert (P : Program) (v : AV) (asserted : TypeId) (ok : Bool) : Option AV :=
  let res (v : AV) : AV := if ok then .tup [v, .bool true] else v
  match P.underlying asserted, v with
  | some (.interface want), .iface t v => match P.info? t with
    | some i => match lacking want i.methods with
      | [] => some (res (.iface t v))
      | _ :: _ => if ok then match zeroOf P asserted with
        | some z => some (.tup [z, .bool false])
        | none => none
        else none
    | none => none
  | some _, .niliface => if ok then match zeroOf P asserted with
    | some z => some (.tup [z, .bool false])
    | none => none
    else none
  | some (.interface _), _ => none
  | some _, .iface t v => if t = asserted then some (res v) else if ok then match zeroOf P asserted with
    | some z => some (.tup [z, .bool false])
    | none => none
    else none
  | _, _ => none
theorem assert_means (h : Rel G B w0 ε S w) {v u : AV} {x : Value} {xt asserted : TypeId} {ok : Bool} (hv : γ ε v x) (hl : xAssert P v asserted ok = some u) :
    MeansV G B w0 ε S ((Instr.typeAssert x xt asserted ok).run P w) u S := by
  unfold xAssert at hl
  simp only at hl
  split at hl <;> try (simp at hl; done)
  · rename_i want t v ht
    simp only [γ, Option.map_eq_some_iff] at hv
    obtain ⟨y, h1, rfl⟩ := hv
    split at hl <;> try (simp at hl; done)
    rename_i i hi
    split at hl
    · rename_i hm
      have hm := missingMethod_none hm
      simp at hl; subst hl
      cases ok
      · exact MeansV.same h (x := .iface t y) (by simp [Instr.typeAssert, run_underlying ht, typeInfo, hi, hm]) (by simp [γ, h1])
      · exact MeansV.same h (x := .tuple #[.iface t y, .bool true]) (by simp [Instr.typeAssert, run_underlying ht, typeInfo, hi, hm]) (by simp [γ, γs, h1])
    · rename_i s0 s1 hm
      obtain ⟨s, hm⟩ := missingMethod_some (want := want) (got := i.methods) (by rw [hm]; simp)
      split at hl <;> try (simp at hl; done)
      rename_i hok
      subst hok
      split at hl <;> simp at hl
      rename_i z hz
      subst hl
      obtain ⟨zx, hzx, hzγ⟩ := run_zeroOf (w := w) hz
      exact MeansV.same h (x := .tuple #[zx, .bool false]) (by simp [Instr.typeAssert, run_underlying ht, typeInfo, hi, hm, hzx]) (by simp [γ, γs, hzγ])
  · obtain ⟨d, ht⟩ : ∃ d, P.underlying asserted = some d := ⟨_, by assumption⟩
    split at hl <;> try (simp at hl; done)
    rename_i hok
    subst hok
    split at hl <;> simp at hl
    rename_i z hz
    subst hl
    simp only [γ, Option.some.injEq] at hv
    subst hv
    obtain ⟨zx, hzx, hzγ⟩ := run_zeroOf (w := w) hz
    refine MeansV.same h (x := .tuple #[zx, .bool false]) ?_ (by simp [γ, γs, hzγ])
    cases d <;> simp [Instr.typeAssert, run_underlying ht, hzx]
  · rename_i d t v hne _ ht
    simp only [γ, Option.map_eq_some_iff] at hv
    obtain ⟨y, h1, rfl⟩ := hv
    split at hl
    · rename_i hta
      subst hta
      simp at hl; subst hl
      cases ok
      · refine MeansV.same h (x := y) ?_ (by simpa using h1)
        cases d <;> first | (exact absurd rfl (hne _)) | simp [Instr.typeAssert, run_underlying ht]
      · refine MeansV.same h (x := .tuple #[y, .bool true]) ?_ (by simp [γ, γs, h1])
        cases d <;> first | (exact absurd rfl (hne _)) | simp [Instr.typeAssert, run_underlying ht]
    · rename_i hta
      split at hl <;> try (simp at hl; done)
      rename_i hok
      subst hok
      split at hl <;> simp at hl
      rename_i z hz
      subst hl
      obtain ⟨zx, hzx, hzγ⟩ := run_zeroOf (w := w) hz
      refine MeansV.same h (x := .tuple #[zx, .bool false]) ?_ (by simp [γ, γs, hzγ])
      cases d <;> first | (exact absurd rfl (hne _)) | simp [Instr.typeAssert, run_underlying ht, hzx, hta]
end
end
end Go.Ex
/- The reflective executor, part 11: an operation, a list of operations, code, calls. -/
namespace Go.Ex
noncomputable section
open Go.RowKit
section
variable {P : Program} {G B : Nat} {w0 w : World} {ε : Env} {S : St}

/-! ### Ranging over a string of ASCII -/
def xRange (P : Program) (t : TypeId) (v : AV) (S : St) : Option (AV × St) :=
  match P.underlying t, v with
  | some .string, .str s => some (.ptr S.nxt 0, S.new (.sit s 0))
  | _, _ => none
theorem range_means (h : Rel G B w0 ε S w) {t : TypeId} {v : AV} {x : Value} {u : AV × St} (hv : γ ε v x) (hl : xRange P t v S = some u) :
    MeansV G B w0 ε S ((Instr.range t x).run P w) u.1 u.2 := by
  unfold xRange at hl
  split at hl <;> simp at hl
  rename_i s ht
  subst hl
  simp only [γ] at hv
  obtain ⟨hs, rfl⟩ := hv
  refine ⟨_, _, ε.set S.nxt w.heap.size 0, run_range_string w t (bs s) ht, Env.agr_set _ _ _ _, by simp [γ, Env.set], h.alloc _ _ 0 (fun ε' _ _ => ⟨hs, rfl⟩), by simp [St.nxt_new]⟩
def xNext (v : AV) (S : St) : Option (AV × St) :=
  match v with
  | .ptr i 0 => match S.get i with
    | some (.sit s pos) => match s[pos]? with
      | some c => if c < 128 then some (.tup [.bool true, .int .i64 pos, .int .i32 c], S.put i (some (.sit s (pos + 1)))) else none
      | none => some (.tup [.bool false], S)
    | _ => none
  | _ => none
theorem next_means (h : Rel G B w0 ε S w) {ty : TypeId} {v : AV} {x : Value} {u : AV × St} (hv : γ ε v x) (hl : xNext v S = some u) :
    MeansV G B w0 ε S ((Instr.next x true ty).run P w) u.1 u.2 := by
  unfold xNext at hl
  split at hl <;> try (simp at hl; done)
  rename_i i
  split at hl <;> try (simp at hl; done)
  rename_i s pos hget
  obtain ⟨b, o, h1, h2, ⟨hs, rfl⟩, h4⟩ := h.live _ _ hget
  simp only [γ, h1, Option.some.injEq] at hv
  obtain ⟨b', hbb, rfl⟩ := hv
  subst hbb
  split at hl
  · rename_i c hc
    split at hl <;> simp at hl
    rename_i h128
    subst hl
    have hlen : pos < s.length := (List.getElem?_eq_some_iff.1 hc).1
    have hlen' : pos < (bs s).size := by rw [bs_size]; exact hlen
    have hget' : (bs s)[pos]'hlen' = UInt8.ofNat c := by
      have e1 : (bs s).data.toList[pos]? = some (UInt8.ofNat c) := by rw [bs_data]; simp [hc]
      have e2 : (bs s)[pos]'hlen' = (bs s).data[pos]'hlen' := rfl
      rw [e2]
      rw [Array.getElem?_toList] at e1
      rw [Array.getElem?_eq_getElem (by exact hlen')] at e1
      exact Option.some.inj e1
    have hnat : ((bs s)[pos]'hlen').toNat = c := by rw [hget']; simp [UInt8.toNat_ofNat']; omega
    have hdec := decode_ascii (bs s) pos hlen' (by omega)
    rw [hnat] at hdec
    have hblt := (Array.getElem?_eq_some_iff.1 h2).1
    have hbne : ∀ (c' : Array Value) (e : TypeId) (f : Nat × Nat), w.heap[b]? ≠ some (.cells c' e f) := by intro c' e f; rw [h2]; simp
    refine ⟨.tuple #[.bool true, .int .i64 pos, .int .i32 c], { w with heap := w.heap.setIfInBounds b (.stringIter (bs s) (pos + 1)) }, ε, ?_, Env.agr_refl _ _, by simp [γ, γs], ?_, by simp [St.put]⟩
    · simp [Instr.next, getObj, setObj, Sem.run, h2, hlen', hdec, goInt]
    · refine h.setBlk hget rfl h1 ⟨rfl, rfl, rfl, by simp⟩ (fun k hk => by simp [Array.getElem?_setIfInBounds_ne (Ne.symm hk)]) (o := .stringIter (bs s) (pos + 1)) (by simp [hblt]) ⟨hs, rfl⟩
  · rename_i hc
    simp at hl; subst hl
    have hlen : ¬ pos < (bs s).size := by
      rw [bs_size]
      rw [List.getElem?_eq_none_iff] at hc
      omega
    exact MeansV.same h (x := .tuple #[.bool false]) (by simp [Instr.next, getObj, Sem.run, h2, hlen]) (by simp [γ, γs])

def xop (P : Program) (G : Nat) (E : Ext) (A : List AV) (S : St) (o : Oper) : Option NX :=
  match o.op with
  | .move x | .assign x => match ev G A x with
    | some v => some (.val v S)
    | none => none
  | .pick c a b => match ev G A c with
    | some (.bool t) => match ev G A (if t then a else b) with
      | some v => some (.val v S)
      | none => none
    | _ => none
  | .alloc e => match zeroOf P e with
    | some z => some (.val (xBox e z S).1 (xBox e z S).2)
    | none => none
  | .box e x => match ev G A x with
    | some v => if v.good then some (.val (xBox e v S).1 (xBox e v S).2) else none
    | none => none
  | .build t parts => match evp G A parts.toList with
    | some ps => match xBuild P t ps with
      | some v => some (.val v S)
      | none => none
    | none => none
  | .buildSlice t len parts => match evp G A parts.toList with
    | some ps => match xBuildSlice P t len ps S with
      | some u => some (.val u.1 u.2)
      | none => none
    | none => none
  | .load t a => match ev G A a with
    | some v => match xLoad P t v S with
      | some u => some (.val u S)
      | none => none
    | none => none
  | .store t a x => match ev G A a, ev G A x with
    | some v, some u => match xStore P t v u S with
      | some S' => some (.unit S')
      | none => none
    | _, _ => none
  | .nilCheck x => match ev G A x with
    | some v => if xNil v then some (.val v S) else none
    | none => none
  | .binOp op t x y _ => match ev G A x, ev G A y with
    | some v, some u => match xBin P op t x y v u with
      | some r => some (.val r S)
      | none => none
    | _, _ => none
  | .unOp op _ x => match ev G A x with
    | some v => match sc v with
      | some y => match pureM P (Op.unary op y) with
        | some z => match cv 2 z with
          | some u => some (.val u S)
          | none => none
        | none => none
      | none => none
    | none => none
  | .convert src dst x => match ev G A x with
    | some v => match xConv P src dst v S with
      | some u => some (.val u.1 u.2)
      | none => none
    | none => none
  | .makeInterface t x => match ev G A x with
    | some v => match P.underlying t with
      | some (.interface _) => none
      | some _ => some (.val (.iface t v) S)
      | none => none
    | none => none
  | .makeFunc fn first captured => match evs G A first.toList, evs G A captured.toList with
    | some a, some c => some (.val (.func fn a c) S)
    | _, _ => none
  | .makeSlice t l c => match ev G A l, ev G A c with
    | some v, some u => match xMakeSlice P t v u S with
      | some r => some (.val r.1 r.2)
      | none => none
    | _, _ => none
  | .slice t x lo hi none => match ev G A x, evo G A lo, evo G A hi with
    | some v, some l, some h => match xSlice P t v l h S with
      | some u => some (.val u S)
      | none => none
    | _, _, _ => none
  | .fieldAddr t x f => match ev G A x with
    | some v => match xFieldAddr P t v f with
      | some u => some (.val u S)
      | none => none
    | none => none
  | .field t x f => match ev G A x with
    | some v => match xField P t v f with
      | some u => some (.val u S)
      | none => none
    | none => none
  | .indexAddr t x i => match ev G A x, ev G A i with
    | some v, some j => match xIndexAddr P t v j with
      | some u => some (.val u S)
      | none => none
    | _, _ => none
  | .index t x i => match ev G A x, ev G A i with
    | some v, some j => match xIndex P t v j with
      | some u => some (.val u S)
      | none => none
    | _, _ => none
  | .typeAssert x _ asserted ok => match ev G A x with
    | some v => match xAssert P v asserted ok with
      | some u => some (.val u S)
      | none => none
    | none => none
  | .extract t ix => match ev G A t with
    | some (.tup l) => match l[ix]? with
      | some v => some (.val v S)
      | none => none
    | _ => none
  | .range t x => match ev G A x with
    | some v => match xRange P t v S with
      | some u => some (.val u.1 u.2)
      | none => none
    | none => none
  | .next it true => match ev G A it with
    | some v => match xNext v S with
      | some u => some (.val u.1 u.2)
      | none => none
    | none => none
  | .call c => xCall P G E A S c o.type
  | .defer c => match c.callee, evs G A c.args.toList with
    | .value f, some args => match ev G A f with
      | some (.func (.func g) first captured) => some (.dfr (.idle g (first.length + args.length + captured.length)) S)
      | _ => none
    | _, _ => none
  | _ => none

theorem Means.value (h : Rel G B w0 ε S w) {s : Sem Next} {x : Value} {v : AV} (hr : s.run P w = .ok (.value x) w) (hv : γ ε v x) : Means G B w0 ε S (s.run P w) (.val v S) :=
  ⟨x, w, ε, hr, Env.agr_refl _ _, hv, h, Nat.le_refl _⟩
theorem xop_means (h : Rel G B w0 ε S w) {E : Ext} (hE : EOk P G E) {ds : List Deferred} {A : List AV} {a : Act} (ha : AR ε ds A a) {o : Oper} {n : NX} (hl : xop P G E A S o = some n) :
    Means G B w0 ε S ((execOp a.eval o).run P w) n := by
  obtain ⟨dst, op, ty, pos, after, guard⟩ := o
  unfold xop at hl
  simp only at hl
  split at hl
  · split at hl <;> simp at hl
    rename_i v hv
    subst hl
    exact Means.value h (by simp [execOp]) (ev_γ h ha hv)
  · split at hl <;> simp at hl
    rename_i v hv
    subst hl
    exact Means.value h (by simp [execOp]) (ev_γ h ha hv)
  · split at hl <;> try (simp at hl; done)
    rename_i c x y _ t ht
    split at hl <;> simp at hl
    rename_i v hv
    subst hl
    have h1 := ev_γ h ha ht
    have h2 := ev_γ h ha hv
    simp only [γ, Option.some.injEq] at h1
    refine Means.value h ?_ h2
    cases t <;> simp [execOp, h1, asBool]
  · split at hl <;> simp at hl
    rename_i z hz
    subst hl
    exact Means.of_v (alloc_means h hz)
  · split at hl <;> try (simp at hl; done)
    rename_i v hv
    split at hl <;> simp at hl
    rename_i hg
    subst hl
    exact Means.of_v (box_means h (ev_γ h ha hv) hg _)
  · rename_i t parts
    split at hl <;> try (simp at hl; done)
    rename_i ps hps
    split at hl <;> simp at hl
    rename_i v hv
    subst hl
    have e : (parts.map fun (i, x) => (i, a.eval x)).toList = parts.toList.map fun (i, x) => (i, a.eval x) := by simp
    exact Means.of_v (build_means h (by rw [e]; exact evp_γ h ha hps) hv)
  · rename_i t len parts
    split at hl <;> try (simp at hl; done)
    rename_i ps hps
    split at hl <;> simp at hl
    rename_i v hv
    subst hl
    have e : (parts.map fun (i, x) => (i, a.eval x)).toList = parts.toList.map fun (i, x) => (i, a.eval x) := by simp
    exact Means.of_v (buildSlice_means h (by rw [e]; exact evp_γ h ha hps) hv)
  · split at hl <;> try (simp at hl; done)
    rename_i v hv
    split at hl <;> simp at hl
    rename_i u hu
    subst hl
    exact Means.of_v (load_means h (ev_γ h ha hv) hu)
  · split at hl <;> try (simp at hl; done)
    rename_i v u hv hu
    split at hl <;> simp at hl
    rename_i S' hS
    subst hl
    exact store_means h (ev_γ h ha hv) (ev_γ h ha hu) hS
  · split at hl <;> try (simp at hl; done)
    rename_i x v hv
    split at hl <;> simp at hl
    rename_i hn
    subst hl
    have h1 := ev_γ h ha hv
    refine Means.value h ?_ h1
    cases v <;> try (simp [xNil] at hn; done)
    case ptr => simp only [γ, Option.map_eq_some_iff] at h1; obtain ⟨b, hb, h1⟩ := h1; simp [execOp, h1]
    case iface => simp only [γ, Option.map_eq_some_iff] at h1; obtain ⟨b, hb, h1⟩ := h1; simp [execOp, h1]
    case func fn x y =>
      cases fn <;> try (simp [xNil] at hn; done)
      simp only [γ, Option.map_eq_some_iff, Option.bind_eq_some_iff] at h1; obtain ⟨b, hb, c, hc, h1⟩ := h1; simp [execOp, h1]
  · split at hl <;> try (simp at hl; done)
    rename_i v u hv hu
    split at hl <;> simp at hl
    rename_i r hr
    subst hl
    obtain ⟨z, h1, h2⟩ := bin_run (P := P) (ev_γ h ha hv) (ev_γ h ha hu) hr
    exact Means.of_v (MeansV.same h (h1 w) h2)
  · split at hl <;> try (simp at hl; done)
    rename_i v hv
    split at hl <;> try (simp at hl; done)
    rename_i y hy
    split at hl <;> try (simp at hl; done)
    rename_i z hz
    split at hl <;> simp at hl
    rename_i u hu
    subst hl
    have e := sc_γ hy (ev_γ h ha hv)
    subst e
    exact Means.of_v (MeansV.same h (pureM_run hz w) (cv_sound ε 2 z u hu))
  · split at hl <;> try (simp at hl; done)
    rename_i v hv
    split at hl <;> simp at hl
    rename_i u hu
    subst hl
    exact Means.of_v (conv_means h (ev_γ h ha hv) hu)
  · split at hl <;> try (simp at hl; done)
    rename_i v hv
    split at hl <;> simp at hl
    rename_i t x _ _ d hne hd
    subst hl
    refine Means.of_v (MeansV.same h ?_ (v := .iface t v) (x := .iface t (a.eval x)) (by simp only [γ]; exact ⟨_, ev_γ h ha hv, rfl⟩))
    simp only [Instr.makeInterface, Sem.run_bind, run_underlying hd, Result.andThen_ok]
    cases d <;> first | (exact absurd rfl (hne _)) | rfl
  · split at hl <;> simp at hl
    rename_i fn first captured _ _ x y hx hy
    subst hl
    have e1 : (first.map a.eval) = (first.toList.map a.eval).toArray := by apply Array.ext'; simp
    have e2 : (captured.map a.eval) = (captured.toList.map a.eval).toArray := by apply Array.ext'; simp
    refine Means.of_v (MeansV.same h (x := .func fn (first.map a.eval) (captured.map a.eval)) rfl ?_)
    rw [e1, e2]
    simp only [γ]
    exact ⟨_, evs_γ h ha hx, _, evs_γ h ha hy, rfl⟩
  · split at hl <;> try (simp at hl; done)
    rename_i v u hv hu
    split at hl <;> simp at hl
    rename_i r hr
    subst hl
    exact Means.of_v (makeSlice_means h (ev_γ h ha hv) (ev_γ h ha hu) hr)
  · split at hl <;> try (simp at hl; done)
    rename_i v l hh hv hlo hhi
    split at hl <;> simp at hl
    rename_i u hu
    subst hl
    exact Means.of_v (slice_means h (ev_γ h ha hv) (evo_γ h ha hlo) (evo_γ h ha hhi) hu)
  · split at hl <;> try (simp at hl; done)
    rename_i v hv
    split at hl <;> simp at hl
    rename_i u hu
    subst hl
    exact Means.of_v (fieldAddr_means h (ev_γ h ha hv) hu)
  · split at hl <;> try (simp at hl; done)
    rename_i v hv
    split at hl <;> simp at hl
    rename_i u hu
    subst hl
    exact Means.of_v (field_means h (ev_γ h ha hv) hu)
  · split at hl <;> try (simp at hl; done)
    rename_i v u hv hu
    split at hl <;> simp at hl
    rename_i r hr
    subst hl
    exact Means.of_v (indexAddr_means h (ev_γ h ha hv) (ev_γ h ha hu) hr)
  · split at hl <;> try (simp at hl; done)
    rename_i v u hv hu
    split at hl <;> simp at hl
    rename_i r hr
    subst hl
    exact Means.of_v (index_means h (ev_γ h ha hv) (ev_γ h ha hu) hr)
  · split at hl <;> try (simp at hl; done)
    rename_i v hv
    split at hl <;> simp at hl
    rename_i u hu
    subst hl
    exact Means.of_v (assert_means h (ev_γ h ha hv) hu)
  · split at hl <;> try (simp at hl; done)
    rename_i ix _ l hv
    split at hl <;> simp at hl
    rename_i v hlv
    subst hl
    have h1 := ev_γ h ha hv
    simp only [γ, Option.map_eq_some_iff] at h1
    obtain ⟨xs, hxs, h1⟩ := h1
    obtain ⟨y, h2, h3⟩ := γs_get hxs hlv
    have h2' : xs.toArray[ix]? = some y := by simpa using h2
    exact Means.of_v (MeansV.same h (by rw [h1]; simp [Instr.extract, h2]) h3)
  · split at hl <;> try (simp at hl; done)
    rename_i v hv
    split at hl <;> simp at hl
    rename_i u hu
    subst hl
    exact Means.of_v (range_means h (ev_γ h ha hv) hu)
  · split at hl <;> try (simp at hl; done)
    rename_i v hv
    split at hl <;> simp at hl
    rename_i u hu
    subst hl
    exact Means.of_v (next_means h (ev_γ h ha hv) hu)
  · exact call_means h hE ha hl
  · rename_i c
    split at hl <;> try (simp at hl; done)
    rename_i f args hf hargs
    split at hl <;> simp at hl
    rename_i g first captured hev
    subst hl
    have hfv := ev_γ h ha hev
    simp only [γ, Option.bind_eq_some_iff, Option.map_eq_some_iff] at hfv
    obtain ⟨xs, h1, ys, h2, h3⟩ := hfv
    have hx := evs_γ h ha hargs
    refine ⟨{ target := .fn (.func g) ys.toArray, args := xs.toArray ++ c.args.map a.eval }, w, ?_, ?_, h, Nat.le_refl _⟩
    · simp only [execOp, resolve, hf, h3, Deferred.ofValue, Sem.run_bind, Sem.run_pure, Result.andThen_ok]
    · refine ⟨_, rfl, ?_⟩
      have e1 := γs_length h1
      have e2 := γs_length h2
      have e3 := γs_length hx
      simp at e3
      simp [e1, e2, ← e3]
  · simp at hl
end
end
end Go.Ex
/- The reflective executor, part 12: operations that yield their value in whatever world; equality of abstract values and worlds. -/
namespace Go.Ex
noncomputable section
open Go.RowKit
section
variable {P : Program} {G B : Nat} {w0 w : World} {ε : Env} {S : St}

/-- A value in whatever world. -/
def PV (P : Program) (ε : Env) (s : Sem Value) (u : AV) : Prop := ∃ y, (∀ w, s.run P w = .ok y w) ∧ γ ε u y

theorem field_pv {t : TypeId} {v u : AV} {x : Value} {f : Nat} (hv : γ ε v x) (hl : xField P t v f = some u) : PV P ε (Instr.field t x f) u := by
  unfold xField at hl
  split at hl <;> try (simp at hl; done)
  rename_i cs fd hfd
  obtain ⟨fs, h1, h2⟩ := fieldT_spec hfd
  simp only [γ, Option.map_eq_some_iff] at hv
  obtain ⟨xs, hxs, rfl⟩ := hv
  obtain ⟨y, h3, h4⟩ := part_means (P := P) (xs := xs.toArray) (by simpa using hxs) hl
  exact ⟨y, fun w => by simp [Instr.field, run_underlying h1, h2, asAgg, h3], h4⟩
theorem fieldAddr_pv {t : TypeId} {v u : AV} {x : Value} {f : Nat} (hv : γ ε v x) (hl : xFieldAddr P t v f = some u) : PV P ε (Instr.fieldAt t x f) u := by
  unfold xFieldAddr at hl
  split at hl <;> try (simp at hl; done)
  rename_i i off fd hfd
  split at hl <;> try (simp at hl; done)
  rename_i n hn
  simp at hl; subst hl
  obtain ⟨fs, h1, h2⟩ := fieldT_spec hfd
  simp only [γ, Option.map_eq_some_iff] at hv
  obtain ⟨b, hb, rfl⟩ := hv
  refine ⟨.pointer (some ⟨b, off + fd.offset, none⟩), fun w => ?_, (by simp [γ, hb])⟩
  simp [Instr.fieldAt, run_underlying h1, h2, Instr.sureAddr, fieldPlace, run_sizeT hn, Addr.add_lit]
theorem indexAddr_pv {t : TypeId} {v ix u : AV} {x y : Value} (hv : γ ε v x) (hy : γ ε ix y) (hl : xIndexAddr P t v ix = some u) : PV P ε (Instr.indexAt t x y) u := by
  unfold xIndexAddr at hl
  split at hl <;> try (simp at hl; done)
  rename_i k j
  simp only [γ, Option.some.injEq] at hy
  subst hy
  split at hl <;> try (simp at hl; done)
  · rename_i e i off len c ht
    split at hl <;> try (simp at hl; done)
    rename_i n hn
    split at hl <;> try (simp at hl; done)
    rename_i hj
    simp at hl; subst hl
    simp only [γ, Option.map_eq_some_iff] at hv
    obtain ⟨b, hb, rfl⟩ := hv
    refine ⟨.pointer (some ⟨b, off + j.toNat * n, none⟩), fun w => ?_, (by simp [γ, hb])⟩
    simp [Instr.indexAt, asIntOf, run_underlying ht, hj, run_sizeT hn, Addr.add_lit]
  · rename_i len e i off ht
    split at hl <;> try (simp at hl; done)
    rename_i n hn
    split at hl <;> try (simp at hl; done)
    rename_i hj
    simp at hl; subst hl
    simp only [γ, Option.map_eq_some_iff] at hv
    obtain ⟨b, hb, rfl⟩ := hv
    refine ⟨.pointer (some ⟨b, off + j.toNat * n, none⟩), fun w => ?_, (by simp [γ, hb])⟩
    simp [Instr.indexAt, asIntOf, run_underlying ht, Instr.sureAddr, hj, run_sizeT hn, Addr.add_lit]
/-- In a world of no blocks everything that asks none is as in any. -/
theorem index_pv {t : TypeId} {v ix u : AV} {x y : Value} (hv : γ ε v x) (hy : γ ε ix y) (hl : xIndex P t v ix = some u) : PV P ε (Instr.index t x y) u := by
  unfold xIndex at hl
  split at hl <;> try (simp at hl; done)
  rename_i k j
  simp only [γ, Option.some.injEq] at hy
  subst hy
  split at hl <;> try (simp at hl; done)
  · rename_i s ht
    split at hl <;> try (simp at hl; done)
    rename_i hj
    split at hl <;> try (simp at hl; done)
    rename_i c hc
    simp at hl; subst hl
    simp only [γ] at hv
    obtain ⟨hok, rfl⟩ := hv
    have hlt : c < 256 := by
      simp only [okb, List.all_eq_true, decide_eq_true_eq] at hok
      exact hok c (List.mem_of_getElem? hc)
    have hget : (bs s)[j.toNat]? = some (UInt8.ofNat c) := by
      have hlen : j.toNat < s.length := (List.getElem?_eq_some_iff.1 hc).1
      have hlen' : j.toNat < (bs s).size := by rw [bs_size]; exact hlen
      rw [getElem?_pos (bs s) j.toNat hlen']
      congr 1
      have h1 : (bs s).data.toList[j.toNat]? = some (UInt8.ofNat c) := by rw [bs_data]; simp [hc]
      have h2 : (bs s)[j.toNat]'hlen' = (bs s).data[j.toNat]'hlen' := rfl
      rw [h2]
      rw [Array.getElem?_toList] at h1
      rw [Array.getElem?_eq_getElem (by exact hlen')] at h1
      exact Option.some.inj h1
    have hnat : (UInt8.ofNat c).toNat = c := by simp [UInt8.toNat_ofNat']; omega
    refine ⟨.int .u8 c, fun w => ?_, (by simp [γ])⟩
    simp only [Instr.index, asIntOf, Sem.run_bind, Sem.run_pure, Result.andThen_ok, run_underlying ht, hj, if_true, hget, hnat]
  · rename_i len e cs ht
    split at hl <;> try (simp at hl; done)
    rename_i n hn
    split at hl <;> try (simp at hl; done)
    rename_i hj
    simp only [γ, Option.map_eq_some_iff] at hv
    obtain ⟨xs, hxs, rfl⟩ := hv
    obtain ⟨y, h3, h4⟩ := part_means (P := P) (xs := xs.toArray) (by simpa using hxs) hl
    exact ⟨y, fun w => by simp [Instr.index, asIntOf, run_underlying ht, hj, run_sizeT hn, h3], h4⟩
def emptySt : St := { ov := [], base := [], nxt := 0 }
theorem slice_pv {t : TypeId} {v u : AV} {x : Value} {lo hi : Option AV} {lo' hi' : Option Value} (hv : γ ε v x)
    (hlo : γo ε lo lo') (hhi : γo ε hi hi') (hl : xSlice P t v lo hi emptySt = some u) : PV P ε (Instr.sliceAt t x lo' hi' none) u := by
  unfold xSlice at hl
  split at hl <;> try (simp at hl; done)
  · rename_i s ht
    split at hl <;> try (simp at hl; done)
    rename_i l hh h1 h2
    split at hl <;> try (simp at hl; done)
    rename_i hc
    simp only [Bool.and_eq_true, decide_eq_true_eq] at hc
    simp at hl; subst hl
    simp only [γ] at hv
    obtain ⟨hok, rfl⟩ := hv
    refine ⟨.string ((bs s).extract l hh), fun w => ?_, (by simp [γ, bs_extract, okb_take (okb_drop hok l) (hh - l)])⟩
    have hb := run_bounds (P := P) (w := w) hlo hhi false (cap := s.length) h1 h2 hc.1 hc.2
    simp only [Instr.sliceAt, Instr.slice, Sem.run_bind, run_underlying ht, Result.andThen_ok, bs_size]
    simp [hb]
  · rename_i e i off len c ht
    split at hl <;> try (simp at hl; done)
    rename_i l hh n h1 h2 hn
    split at hl <;> try (simp at hl; done)
    rename_i hc
    simp only [Bool.and_eq_true, decide_eq_true_eq] at hc
    simp at hl; subst hl
    simp only [γ, Option.map_eq_some_iff] at hv
    obtain ⟨b, hb, rfl⟩ := hv
    refine ⟨.slice (some ⟨b, if c = l then off else off + l * n, none⟩) (hh - l) (c - l), fun w => ?_, (by simp [γ, hb, capOf])⟩
    have hbd := run_bounds (P := P) (w := w) hlo hhi true (cap := c) h1 h2 hc.1 hc.2
    simp only [Instr.sliceAt, Instr.slice, Sem.run_bind, run_underlying ht, Result.andThen_ok, capOf, hbd, run_sizeT hn, Sem.run_pure]
    split <;> simp [addr_add]
  · rename_i e i off len s ht
    split at hl <;> try (simp at hl; done)
    simp [capOk, emptySt, St.get, look] at hl
  · rename_i e ht
    split at hl <;> try (simp at hl; done)
    rename_i h1 h2 hn
    simp at hl; subst hl
    simp only [γ, Option.some.injEq] at hv
    subst hv
    refine ⟨.slice none 0 0, fun w => ?_, (by simp [γ])⟩
    have hbd := run_bounds (P := P) (w := w) hlo hhi true (cap := 0) h1 h2 (Nat.le_refl _) (Nat.le_refl _)
    simp [Instr.sliceAt, Instr.slice, run_underlying ht, hbd, run_sizeT hn]
  · rename_i c e i off ht
    split at hl <;> try (simp at hl; done)
    rename_i l hh n h1 h2 hn
    split at hl <;> try (simp at hl; done)
    rename_i hc
    simp only [Bool.and_eq_true, decide_eq_true_eq] at hc
    simp at hl; subst hl
    simp only [γ, Option.map_eq_some_iff] at hv
    obtain ⟨b, hb, rfl⟩ := hv
    refine ⟨.slice (some ⟨b, if c = l then off else off + l * n, none⟩) (hh - l) (c - l), fun w => ?_, (by simp [γ, hb, capOf])⟩
    have hbd := run_bounds (P := P) (w := w) hlo hhi false (cap := c) h1 h2 hc.1 hc.2
    simp only [Instr.sliceAt, Sem.run_bind, run_underlying ht, Result.andThen_ok, Instr.sureAddr, Sem.run_pure, hbd, run_sizeT hn]
    split <;> simp [addr_add]
theorem build_pv {t : TypeId} {parts : List (Nat × AV)} {xs : Array (Nat × Value)} {u : AV} (hp : γp ε parts xs.toList) (hl : xBuild P t parts = some u) : PV P ε (Instr.build t xs) u := by
  unfold xBuild at hl
  split at hl <;> try (simp at hl; done)
  · rename_i z fs hz ht
    obtain ⟨i, x, h1, h2, h3⟩ := zeroOf_spec hz
    cases hpl : placesT P t with
    | none => simp [hpl] at hl
    | some places =>
      simp only [hpl, Option.map_eq_some_iff] at hl
      obtain ⟨r, hr, rfl⟩ := hl
      obtain ⟨Y, h4, h5⟩ := xFill_sound parts xs.toList _ x.cells r hp (γ_cells (h3 ε) (zeroOf_good hz)) hr
      have hb : P.built t xs.toList = some Y := by
        unfold placesT at hpl
        simp only [ht] at hpl
        unfold Program.built
        simp only [h1, ht, h2, hpl]
        rw [← h4]
        congr 1
        funext i
        simp
      exact ⟨_, fun w => run_build w t xs Y hb, γ_agg h5⟩
  · rename_i z n0 e hz ht
    obtain ⟨i, x, h1, h2, h3⟩ := zeroOf_spec hz
    split at hl <;> try (simp at hl; done)
    rename_i n hn
    simp only [Option.map_eq_some_iff] at hl
    obtain ⟨r, hr, rfl⟩ := hl
    obtain ⟨Y, h4, h5⟩ := xFill_sound parts xs.toList _ x.cells r hp (γ_cells (h3 ε) (zeroOf_good hz)) hr
    have hb : P.built t xs.toList = some Y := by
      unfold sizeT at hn
      cases hie : P.info? e with
      | none => simp [hie] at hn
      | some ie =>
        simp [hie] at hn
        unfold Program.built
        simp only [h1, ht, h2, hie, hn]
        exact h4
    exact ⟨_, fun w => run_build w t xs Y hb, γ_agg h5⟩

def xpure (P : Program) (G : Nat) (A : List AV) (o : Oper) : Option AV :=
  match o.op with
  | .move x | .assign x => ev G A x
  | .pick c a b => match ev G A c with
    | some (.bool t) => ev G A (if t then a else b)
    | _ => none
  | .build t parts => match evp G A parts.toList with
    | some ps => xBuild P t ps
    | none => none
  | .nilCheck x => match ev G A x with
    | some v => if xNil v then some v else none
    | none => none
  | .binOp op t x y _ => match ev G A x, ev G A y with
    | some v, some u => xBin P op t x y v u
    | _, _ => none
  | .unOp op _ x => match ev G A x with
    | some v => match sc v with
      | some y => match pureM P (Op.unary op y) with
        | some z => cv 2 z
        | none => none
      | none => none
    | none => none
  | .convert src dst x => match ev G A x with
    | some v => match sc v with
      | some y => match pureM P (convert src dst y) with
        | some z => cv 2 z
        | none => none
      | none => none
    | none => none
  | .makeInterface t x => match ev G A x with
    | some v => match P.underlying t with
      | some (.interface _) => none
      | some _ => some (.iface t v)
      | none => none
    | none => none
  | .makeFunc fn first captured => match evs G A first.toList, evs G A captured.toList with
    | some a, some c => some (.func fn a c)
    | _, _ => none
  | .slice t x lo hi none => match ev G A x, evo G A lo, evo G A hi with
    | some v, some l, some h => xSlice P t v l h emptySt
    | _, _, _ => none
  | .fieldAddr t x f => match ev G A x with
    | some v => xFieldAddr P t v f
    | none => none
  | .field t x f => match ev G A x with
    | some v => xField P t v f
    | none => none
  | .indexAddr t x i => match ev G A x, ev G A i with
    | some v, some j => xIndexAddr P t v j
    | _, _ => none
  | .index t x i => match ev G A x, ev G A i with
    | some v, some j => xIndex P t v j
    | _, _ => none
  | .extract t ix => match ev G A t with
    | some (.tup l) => l[ix]?
    | _ => none
  | _ => none
theorem pv_val {s : Sem Value} {u : AV} (h : PV P ε s u) : ∃ y, (∀ w, (do pure (Next.value (← s)) : Sem Next).run P w = .ok (.value y) w) ∧ γ ε u y := by
  obtain ⟨y, h1, h2⟩ := h
  exact ⟨y, fun w => by simp [h1], h2⟩
theorem xpure_sound (h : Rel G B w0 ε S w) {ds : List Deferred} {A : List AV} {a : Act} (ha : AR ε ds A a) {o : Oper} {u : AV} (hl : xpure P G A o = some u) :
    ∃ y, (∀ w, (execOp a.eval o).run P w = .ok (.value y) w) ∧ γ ε u y := by
  obtain ⟨dst, op, ty, pos, after, guard⟩ := o
  unfold xpure at hl
  simp only at hl
  split at hl
  · exact ⟨_, fun w => by simp [execOp], ev_γ h ha hl⟩
  · exact ⟨_, fun w => by simp [execOp], ev_γ h ha hl⟩
  · split at hl <;> try (simp at hl; done)
    rename_i c x y _ t ht
    have h1 := ev_γ h ha ht
    have h2 := ev_γ h ha hl
    simp only [γ, Option.some.injEq] at h1
    exact ⟨_, fun w => by cases t <;> simp [execOp, h1, asBool], h2⟩
  · rename_i t parts
    split at hl <;> try (simp at hl; done)
    rename_i ps hps
    have e : (parts.map fun (i, x) => (i, a.eval x)).toList = parts.toList.map fun (i, x) => (i, a.eval x) := by simp
    exact pv_val (build_pv (by rw [e]; exact evp_γ h ha hps) hl)
  · split at hl <;> try (simp at hl; done)
    rename_i x v hv
    split at hl <;> simp at hl
    rename_i hn
    subst hl
    have h1 := ev_γ h ha hv
    refine ⟨_, fun w => ?_, h1⟩
    cases v <;> try (simp [xNil] at hn; done)
    case ptr => simp only [γ, Option.map_eq_some_iff] at h1; obtain ⟨b, hb, h1⟩ := h1; simp [execOp, h1]
    case iface => simp only [γ, Option.map_eq_some_iff] at h1; obtain ⟨b, hb, h1⟩ := h1; simp [execOp, h1]
    case func fn x y =>
      cases fn <;> try (simp [xNil] at hn; done)
      simp only [γ, Option.map_eq_some_iff, Option.bind_eq_some_iff] at h1; obtain ⟨b, hb, c, hc, h1⟩ := h1; simp [execOp, h1]
  · split at hl <;> try (simp at hl; done)
    rename_i v u hv hu
    exact pv_val (bin_run (P := P) (ev_γ h ha hv) (ev_γ h ha hu) hl)
  · split at hl <;> try (simp at hl; done)
    rename_i v hv
    split at hl <;> try (simp at hl; done)
    rename_i y hy
    split at hl <;> try (simp at hl; done)
    rename_i z hz
    have e := sc_γ hy (ev_γ h ha hv)
    subst e
    exact pv_val ⟨z, pureM_run hz, cv_sound ε 2 z u hl⟩
  · split at hl <;> try (simp at hl; done)
    rename_i v hv
    split at hl <;> try (simp at hl; done)
    rename_i y hy
    split at hl <;> try (simp at hl; done)
    rename_i z hz
    have e := sc_γ hy (ev_γ h ha hv)
    subst e
    exact pv_val ⟨z, pureM_run hz, cv_sound ε 2 z u hl⟩
  · split at hl <;> try (simp at hl; done)
    rename_i v hv
    split at hl <;> simp at hl
    rename_i t x _ _ d hne hd
    subst hl
    refine pv_val ⟨.iface t (a.eval x), fun w => ?_, (by simp only [γ]; exact ⟨_, ev_γ h ha hv, rfl⟩)⟩
    simp only [Instr.makeInterface, Sem.run_bind, run_underlying hd, Result.andThen_ok]
    cases d <;> first | (exact absurd rfl (hne _)) | rfl
  · split at hl <;> simp at hl
    rename_i fn first captured _ _ x y hx hy
    subst hl
    have e1 : (first.map a.eval) = (first.toList.map a.eval).toArray := by apply Array.ext'; simp
    have e2 : (captured.map a.eval) = (captured.toList.map a.eval).toArray := by apply Array.ext'; simp
    refine pv_val ⟨.func fn (first.map a.eval) (captured.map a.eval), fun w => rfl, ?_⟩
    rw [e1, e2]
    simp only [γ]
    exact ⟨_, evs_γ h ha hx, _, evs_γ h ha hy, rfl⟩
  · split at hl <;> try (simp at hl; done)
    rename_i v l hh hv hlo hhi
    exact pv_val (slice_pv (ev_γ h ha hv) (evo_γ h ha hlo) (evo_γ h ha hhi) hl)
  · split at hl <;> try (simp at hl; done)
    rename_i v hv
    exact pv_val (fieldAddr_pv (ev_γ h ha hv) hl)
  · split at hl <;> try (simp at hl; done)
    rename_i v hv
    exact pv_val (field_pv (ev_γ h ha hv) hl)
  · split at hl <;> try (simp at hl; done)
    rename_i v u hv hu
    exact pv_val (indexAddr_pv (ev_γ h ha hv) (ev_γ h ha hu) hl)
  · split at hl <;> try (simp at hl; done)
    rename_i v u hv hu
    exact pv_val (index_pv (ev_γ h ha hv) (ev_γ h ha hu) hl)
  · split at hl <;> try (simp at hl; done)
    rename_i ix _ l hv
    have h1 := ev_γ h ha hv
    simp only [γ, Option.map_eq_some_iff] at h1
    obtain ⟨xs, hxs, h1⟩ := h1
    obtain ⟨y, h2, h3⟩ := γs_get hxs hl
    have h2' : xs.toArray[ix]? = some y := by simpa using h2
    exact pv_val ⟨y, fun w => by rw [h1]; simp [Instr.extract, h2], h3⟩
  · simp at hl
end
end
end Go.Ex
