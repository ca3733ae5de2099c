/- The reflective executor, part 2: abstract worlds, what they say of a world of the model; reading, writing, making blocks. -/
import Derived.Test.YtkpdfahdgodajaaGreatDoorRx1
import Derived.Laws.AppendOwn
namespace Go.Rx
open Go.RowKit

/-- May a block be written: yes; no longer, but it is the call's own; no. -/
inductive Fr where
  | free
  | mine
  | other
  deriving DecidableEq
def Fr.own : Fr → Bool
  | .other => false
  | _ => true
inductive ABlk where
  | cells (cs : List AV) (elem : TypeId) (opn : Option Nat) (wr : Fr)
  | sit (s : List Nat) (pos : Nat)
  /-- The block for the deferred calls of a loop's rounds: none so far. -/
  | dfr
  /-- The record of a loop over a function. -/
  | lp (st : LoopState) (pend : Option Code) (A : List AV) (ps : Array Tmp) (assign body : Code) (D : Nat)

abbrev Bl := List (Nat × Option ABlk)

def look : Bl → Nat → Option (Option ABlk)
  | [], _ => none
  | (j, b) :: l, i => if j = i then some b else look l i
def upd : Bl → Nat → Option ABlk → Bl
  | [], i, b => [(i, b)]
  | (j, c) :: l, i, b => if j = i then (i, b) :: l else (j, c) :: upd l i b
theorem look_upd : ∀ (l : Bl) (i : Nat) (b : Option ABlk) (k : Nat), look (upd l i b) k = if i = k then some b else look l k
  | [], i, b, k => by simp [upd, look]
  | (j, c) :: l, i, b, k => by
    simp only [upd]
    split
    · rename_i h; subst h; simp only [look]; split <;> rfl
    · rename_i h
      simp only [look, look_upd l i b k]
      by_cases h1 : j = k
      · subst h1; simp [Ne.symm h]
      · simp [h1]
theorem look_append : ∀ (l m : Bl) (k : Nat), look (l ++ m) k = match look l k with | some b => some b | none => look m k
  | [], m, k => by simp [look]
  | (j, c) :: l, m, k => by
    simp only [List.cons_append, look]
    split
    · rfl
    · exact look_append l m k
theorem look_none_of_bnd {l : Bl} {n : Nat} (h : ∀ p ∈ l, p.1 < n) : ∀ k, n ≤ k → look l k = none := by
  induction l with
  | nil => intros; rfl
  | cons p l ih =>
    intro k hk
    obtain ⟨j, c⟩ := p
    have h1 : j < n := h (j, c) (by simp)
    have hne : ¬ j = k := by omega
    simp only [look, hne, if_false]
    exact ih (fun p hp => h p (by simp [hp])) k hk
theorem upd_bnd {l : Bl} {n : Nat} (h : ∀ p ∈ l, p.1 < n) {i : Nat} (hi : i < n) (b : Option ABlk) : ∀ p ∈ upd l i b, p.1 < n := by
  induction l with
  | nil => intro p hp; simp [upd] at hp; subst hp; exact hi
  | cons q l ih =>
    obtain ⟨j, c⟩ := q
    intro p hp
    simp only [upd] at hp
    split at hp
    · rcases List.mem_cons.1 hp with rfl | hp
      · exact hi
      · exact h p (by simp [hp])
    · rcases List.mem_cons.1 hp with rfl | hp
      · exact h _ (by simp)
      · exact ih (fun p hp => h p (by simp [hp])) p hp

/-- A deferred call that comes to nothing, or the mark of a loop's block. -/
inductive AD where
  | idle (f : FuncId) (n : Nat)
  | coll (i : Nat)
structure St where
  ov : Bl
  base : Bl
  nxt : Nat
  dl : List AD := []
  rnd : Option Nat := none

def St.get (S : St) (i : Nat) : Option ABlk :=
  match look S.ov i with
  | some b => b
  | none => match look S.base i with
    | some b => b
    | none => none
def St.put (S : St) (i : Nat) (b : Option ABlk) : St := { S with ov := upd S.ov i b }
theorem St.get_put (S : St) (i : Nat) (b : Option ABlk) (k : Nat) : (S.put i b).get k = if i = k then b else S.get k := by
  simp only [St.get, St.put, look_upd]
  by_cases h : i = k <;> simp [h]
/-- A new block at the next number. -/
def St.new (S : St) (b : ABlk) : St := { S with ov := (S.nxt, some b) :: S.ov, nxt := S.nxt + 1 }
theorem St.get_new (S : St) (b : ABlk) (k : Nat) : (S.new b).get k = if S.nxt = k then some b else S.get k := by
  simp only [St.get, St.new, look]
  by_cases h : S.nxt = k <;> simp [h]

/-- A block of the model is what an abstract block says. -/
def BR (ε : Env) (i : Nat) : ABlk → Obj → Prop
  | .cells cs elem opn wr, o => ∃ xs extra fr, γs ε cs = some xs ∧ o = .cells (xs ++ extra).toArray elem fr ∧ (wr = .free → fr = (0, 0)) ∧
      (match opn with | none => extra = [] | some sz => (xs ++ extra).length = ε.κ i * sz)
  | .sit s pos, o => okb s = true ∧ o = .stringIter (bs s) pos
  | .dfr, o => o = .deferred (some [])
  | .lp st pend A ps assign body D, o => ∃ fn xs d, γs ε A = some xs ∧ ε.δ D = some d ∧ o = .loop { state := st, pending := pend, fn := fn, tmps := xs.toArray, params := ps, assign := assign, body := body, defers := d }
def ABlk.own : ABlk → Bool
  | .cells _ _ _ wr => wr.own
  | .sit _ _ => true
  | .dfr => true
  | .lp .. => true

theorem BR.mono {ε ε' : Env} {i : Nat} {b : ABlk} {o : Obj} (h : BR ε i b o) (hle : ε.le ε') (hk : ε'.κ i = ε.κ i) : BR ε' i b o := by
  cases b with
  | cells cs elem opn wr =>
    obtain ⟨xs, extra, fr, h1, h2, h3, h4⟩ := h
    exact ⟨xs, extra, fr, γs_mono hle _ _ h1, h2, h3, by cases opn <;> simp_all⟩
  | sit s pos => exact h
  | dfr => exact h
  | lp st pend A ps assign body D =>
    obtain ⟨fn, xs, d, h1, h2, h3⟩ := h
    exact ⟨fn, xs, d, γs_mono hle _ _ h1, (hle _ _ h2).1, h3⟩

/-- What an abstract world says of a world of the model: below block B nothing has turned since w0. -/
structure Rel (G B : Nat) (w0 : World) (ε : Env) (S : St) (w : World) : Prop where
  below : Below B w0 w
  hB : B ≤ w.heap.size
  gB : G ≤ B
  gn : G ≤ S.nxt
  glob : ∀ g, g < G → ε.δ g = some g
  free : ∀ k, S.nxt ≤ k → ε.δ k = none
  bov : ∀ p ∈ S.ov, p.1 < S.nxt
  bba : ∀ p ∈ S.base, p.1 < S.nxt
  live : ∀ i blk, S.get i = some blk → ∃ b o, ε.δ i = some b ∧ w.heap[b]? = some o ∧ BR ε i blk o ∧ (blk.own = true → B ≤ b)
  inj : ∀ i j bi bj b, S.get i = some bi → S.get j = some bj → ε.δ i = some b → ε.δ j = some b → i = j

/-- ε' says of the numbers below n what ε says. -/
def Env.agr (n : Nat) (ε ε' : Env) : Prop := ∀ k, k < n → ε'.δ k = ε.δ k ∧ ε'.κ k = ε.κ k
theorem Env.agr_refl (n : Nat) (ε : Env) : ε.agr n ε := fun _ _ => ⟨rfl, rfl⟩
theorem Env.agr_trans {n m : Nat} {a b c : Env} (h : a.agr n b) (h' : b.agr m c) (hnm : n ≤ m) : a.agr n c := fun k hk => by
  obtain ⟨h1, h2⟩ := h k hk
  obtain ⟨h3, h4⟩ := h' k (by omega)
  exact ⟨h3.trans h1, h4.trans h2⟩
theorem Env.agr.le {n : Nat} {ε ε' : Env} (h : ε.agr n ε') (hf : ∀ k, n ≤ k → ε.δ k = none) : ε.le ε' := fun i b hb => by
  rcases Nat.lt_or_ge i n with hi | hi
  · obtain ⟨h1, h2⟩ := h i hi; exact ⟨h1.trans hb, h2⟩
  · rw [hf i hi] at hb; cases hb
section
variable {G B : Nat} {w0 w : World} {ε : Env} {S : St}
theorem Rel.le (h : Rel G B w0 ε S w) {ε' : Env} (ha : ε.agr S.nxt ε') : ε.le ε' := ha.le h.free
theorem Rel.lt (h : Rel G B w0 ε S w) {i b : Nat} (hi : ε.δ i = some b) : i < S.nxt := by
  rcases Nat.lt_or_ge i S.nxt with h' | h'
  · exact h'
  · rw [h.free i h'] at hi; cases hi
/-- The same of a world with the same heap. -/
theorem Rel.drew (h : Rel G B w0 ε S w) : Rel G B w0 ε S w.drew :=
  ⟨h.below.drew, h.hB, h.gB, h.gn, h.glob, h.free, h.bov, h.bba, h.live, h.inj⟩
/-- Fewer blocks are told. -/
theorem Rel.sub (h : Rel G B w0 ε S w) {S' : St} (hn : S'.nxt = S.nxt) (h1 : ∀ p ∈ S'.ov, p.1 < S'.nxt) (h2 : ∀ p ∈ S'.base, p.1 < S'.nxt)
    (hs : ∀ i b, S'.get i = some b → S.get i = some b) : Rel G B w0 ε S' w :=
  ⟨h.below, h.hB, h.gB, hn ▸ h.gn, h.glob, hn ▸ h.free, h1, h2, fun i b hb => h.live i b (hs i b hb),
   fun i j bi bj b hi hj => h.inj i j bi bj b (hs _ _ hi) (hs _ _ hj)⟩

def Env.set (ε : Env) (i b k : Nat) : Env := ⟨fun j => if j = i then some b else ε.δ j, fun j => if j = i then k else ε.κ j⟩
theorem Env.agr_set (ε : Env) (n b k : Nat) : ε.agr n (ε.set n b k) := fun j hj => by
  have : ¬ j = n := by omega
  simp [Env.set, this]

/-- A new block of the model at the next number. -/
theorem Rel.alloc (h : Rel G B w0 ε S w) (blk : ABlk) (o : Obj) (k : Nat) (hb : ∀ ε', ε.agr S.nxt ε' → ε'.κ S.nxt = k → BR ε' S.nxt blk o) :
    Rel G B w0 (ε.set S.nxt w.heap.size k) (S.new blk) (w.alloc o) := by
  have hagr := Env.agr_set ε S.nxt w.heap.size k
  have hle := h.le hagr
  have hself : (ε.set S.nxt w.heap.size k).κ S.nxt = k := by simp [Env.set]
  have old : ∀ i b, ε.δ i = some b → (ε.set S.nxt w.heap.size k).δ i = some b := fun i b hb => (hle i b hb).1
  have wlt : ∀ b (o' : Obj), w.heap[b]? = some o' → b < w.heap.size := fun b o' h' => (Array.getElem?_eq_some_iff.1 h').1
  refine ⟨h.below.alloc h.hB o, by simp; have := h.hB; omega, h.gB, by simp [St.new]; have := h.gn; omega, ?_, ?_, ?_, ?_, ?_, ?_⟩
  · intro g hg
    exact old g g (h.glob g hg)
  · intro j hj
    have : ¬ j = S.nxt := by simp [St.new] at hj; omega
    simp only [Env.set, this, if_false]
    exact h.free j (by simp [St.new] at hj; omega)
  · intro p hp
    simp only [St.new, List.mem_cons] at hp ⊢
    rcases hp with rfl | hp
    · exact Nat.lt_succ_self _
    · exact Nat.lt_succ_of_lt (h.bov p hp)
  · intro p hp
    exact Nat.lt_succ_of_lt (h.bba p hp)
  · intro i b hget
    rw [St.get_new] at hget
    split at hget
    · rename_i hi
      subst hi
      simp only [Option.some.injEq] at hget
      subst hget
      exact ⟨w.heap.size, o, by simp [Env.set], heap_alloc_new w o, hb _ hagr hself, fun _ => h.hB⟩
    · obtain ⟨b', o', h1, h2, h3, h4⟩ := h.live i b hget
      have hlt := h.lt h1
      exact ⟨b', o', old i b' h1, by rw [Below.heap_alloc _ _ _ (wlt _ _ h2)]; exact h2, h3.mono hle (hagr i hlt).2, h4⟩
  · intro i j bi bj b hi hj h1 h2
    rw [St.get_new] at hi hj
    simp only [Env.set] at h1 h2
    split at hi
    · rename_i hi'
      split at hj
      · rename_i hj'; omega
      · subst hi'
        obtain ⟨b', o', h3, h4, _⟩ := h.live j bj hj
        have hjn : ¬ j = S.nxt := by have := h.lt h3; omega
        simp only [if_true, Option.some.injEq] at h1
        simp only [hjn, if_false] at h2
        rw [h3] at h2
        have := wlt _ _ h4
        simp at h2
        omega
    · split at hj
      · rename_i hj'
        subst hj'
        obtain ⟨b', o', h3, h4, _⟩ := h.live i bi hi
        have hin : ¬ i = S.nxt := by have := h.lt h3; omega
        simp only [if_true, Option.some.injEq] at h2
        simp only [hin, if_false] at h1
        rw [h3] at h1
        have := wlt _ _ h4
        simp at h1
        omega
      · obtain ⟨b', o', h3, h4, _⟩ := h.live i bi hi
        obtain ⟨b'', o'', h5, h6, _⟩ := h.live j bj hj
        have hin : ¬ i = S.nxt := by have := h.lt h3; omega
        have hjn : ¬ j = S.nxt := by have := h.lt h5; omega
        simp only [hin, hjn, if_false] at h1 h2
        exact h.inj i j bi bj b hi hj h1 h2

/-- A block of the call's own is written. -/
theorem Rel.setBlk (h : Rel G B w0 ε S w) {i b : Nat} {old new : ABlk} (hget : S.get i = some old) (hown : old.own = true) (hi : ε.δ i = some b) {w' : World} {o : Obj}
    (hw : w'.os = w.os ∧ w'.tape = w.tape ∧ w'.output = w.output ∧ w'.heap.size = w.heap.size) (hother : ∀ k, k ≠ b → w'.heap[k]? = w.heap[k]?)
    (ho : w'.heap[b]? = some o) (hb : BR ε i new o) : Rel G B w0 ε (S.put i (some new)) w' := by
  obtain ⟨b', o', h1, h2, h3, h4⟩ := h.live i old hget
  rw [hi] at h1
  simp at h1
  subst h1
  have hBb := h4 hown
  have hlt := h.lt hi
  refine ⟨⟨hw.1.trans h.below.os, hw.2.1.trans h.below.tape, hw.2.2.1.trans h.below.output, by rw [hw.2.2.2]; exact h.below.size, fun k hk => (hother k (by omega)).trans (h.below.block k hk)⟩,
    by rw [hw.2.2.2]; exact h.hB, h.gB, h.gn, h.glob, h.free, ?_, h.bba, ?_, ?_⟩
  · exact upd_bnd h.bov hlt _
  · intro j bj hj
    rw [St.get_put] at hj
    split at hj
    · rename_i hij
      subst hij
      simp at hj
      subst hj
      exact ⟨b, o, hi, ho, hb, fun _ => hBb⟩
    · rename_i hij
      obtain ⟨b', o', h5, h6, h7, h8⟩ := h.live j bj hj
      have hne : b' ≠ b := fun e => hij (h.inj i j old bj b hget hj hi (e ▸ h5))
      exact ⟨b', o', h5, by rw [hother b' hne]; exact h6, h7, h8⟩
  · intro j k bj bk c hj hk h5 h6
    have live' : ∀ m bm, (S.put i (some new)).get m = some bm → ∃ bm', S.get m = some bm' := by
      intro m bm hm
      rw [St.get_put] at hm
      split at hm
      · rename_i him; subst him; exact ⟨old, hget⟩
      · exact ⟨bm, hm⟩
    obtain ⟨bj', hj'⟩ := live' j bj hj
    obtain ⟨bk', hk'⟩ := live' k bk hk
    exact h.inj j k bj' bk' c hj' hk' h5 h6
end

/-! ### Cells -/
def St.read (S : St) (i off n : Nat) : Option (List AV) :=
  match S.get i with
  | some (.cells cs _ _ _) => if off + n ≤ cs.length then some ((cs.drop off).take n) else none
  | _ => none
section
variable {G B : Nat} {w0 w : World} {ε : Env} {S : St}
theorem Rel.read (h : Rel G B w0 ε S w) {i off n : Nat} {vs : List AV} (hr : S.read i off n = some vs) :
    ∃ b xs, ε.δ i = some b ∧ γs ε vs = some xs ∧ xs.length = n ∧ ∀ j v, xs[j]? = some v → w.cell? ⟨b, off + j, none⟩ = some v := by
  unfold St.read at hr
  split at hr
  · rename_i cs elem opn wr hget
    split at hr
    · rename_i hlen
      simp at hr
      subst hr
      obtain ⟨b, o, h1, h2, ⟨xs, extra, fr, h3, h4, _⟩, _⟩ := h.live _ _ hget
      have hl := γs_length h3
      refine ⟨b, (xs.drop off).take n, h1, γs_take (γs_drop h3 off) n, by simp; omega, ?_⟩
      intro j v hj
      subst h4
      simp only [List.getElem?_take, List.getElem?_drop] at hj
      split at hj
      · simp only [World.cell?, h2]
        have : off + j < xs.length := (List.getElem?_eq_some_iff.1 hj).1
        simp [List.getElem?_append_left this, hj]
      · simp at hj
    · simp at hr
  · simp at hr

/-- Cells are written. -/
def St.write (S : St) (i off : Nat) (vs : List AV) : Option St :=
  match S.get i with
  | some (.cells cs elem opn .free) => if off + vs.length ≤ cs.length && vs.all AV.one then some (S.put i (some (.cells (cs.take off ++ vs ++ cs.drop (off + vs.length)) elem opn .free))) else none
  | _ => none
theorem γs_one {vs : List AV} {xs : List Value} (h : γs ε vs = some xs) (ho : vs.all AV.one = true) : ∀ x ∈ xs, x.oneCell' = true := by
  induction vs generalizing xs with
  | nil => rw [γs_nil] at h; subst h; simp
  | cons v vs ih =>
    obtain ⟨x, ys, h1, h2, rfl⟩ := γs_cons.1 h
    simp only [List.all_cons, Bool.and_eq_true] at ho
    intro y hy
    rcases List.mem_cons.1 hy with rfl | hy
    · exact γ_one h1 ho.1
    · exact ih h2 ho.2 y hy
theorem Rel.write {P : Program} (h : Rel G B w0 ε S w) {i off : Nat} {vs : List AV} {S' : St} (hw : S.write i off vs = some S') {xs : List Value} (hv : γs ε vs = some xs) :
    ∃ b w', ε.δ i = some b ∧ (storeCells ⟨b, off, none⟩ xs 0).run P w = .ok () w' ∧ Rel G B w0 ε S' w' ∧ S'.nxt = S.nxt := by
  unfold St.write at hw
  split at hw
  · rename_i cs elem opn hget
    split at hw
    · rename_i hc
      simp only [Bool.and_eq_true, decide_eq_true_eq] at hc
      obtain ⟨hlen, hone⟩ := hc
      simp at hw
      subst hw
      obtain ⟨b, o, h1, h2, ⟨ys, extra, fr, h3, h4, h5, h6⟩, _⟩ := h.live _ _ hget
      have hfr := h5 rfl
      subst hfr
      subst h4
      have hl := γs_length h3
      have hl2 := γs_length hv
      have hst := run_storeCells_at P b off elem xs 0 (ys ++ extra).toArray w h2 (by simp; omega) (γs_one hv hone)
      refine ⟨b, _, h1, hst, ?_, rfl⟩
      have hrow := setRow_heap w b _ ((ys ++ extra).take off ++ xs ++ (ys ++ extra).drop (off + xs.length)).toArray elem (0, 0) h2
      refine h.setBlk hget rfl h1 ⟨rfl, rfl, rfl, by simp⟩ (fun k hk => setRow_other w b k _ hk) (o := .cells ((ys ++ extra).take off ++ xs ++ (ys ++ extra).drop (off + xs.length)).toArray elem (0, 0)) ?_ ?_
      · simpa using hrow
      · refine ⟨ys.take off ++ xs ++ ys.drop (off + vs.length), extra, (0, 0), ?_, ?_, fun _ => rfl, ?_⟩
        · simpa using γs_append (γs_take h3 off) (γs_append hv (γs_drop h3 (off + vs.length)))
        · have e1 : (ys ++ extra).take off = ys.take off := by rw [List.take_append_of_le_length (by omega)]
          have e2 : (ys ++ extra).drop (off + xs.length) = ys.drop (off + vs.length) ++ extra := by rw [hl2, List.drop_append_of_le_length (by omega)]
          rw [e1, e2]; simp
        · cases opn with
          | none => simpa using h6
          | some sz =>
            simp only [List.length_append, List.length_take, List.length_drop] at h6 ⊢
            omega
    · simp at hw
  · simp at hw
end
end Go.Rx
