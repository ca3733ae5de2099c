/- The reflective executor, part 13: equality of abstract things; what is still reached; code, loops, calls. -/
import Derived.Test.YtkpdfahdgodajaaGreatDoorRx12
import Derived.LoopN
import Derived.OrdersHeld
import Derived.RangeFuncLeaves
namespace Go.Rx
noncomputable section
open Go.RowKit

mutual
def AV.beq : AV → AV → Bool
  | .int k n, .int k' n' => decide (k = k') && decide (n = n')
  | .bool b, .bool b' => decide (b = b')
  | .flt k n, .flt k' n' => decide (k = k') && decide (n = n')
  | .str s, .str s' => neq s s'
  | .ptr i o, .ptr i' o' => decide (i = i') && decide (o = o')
  | .nilptr, .nilptr => true
  | .slc i o l (.ex c), .slc i' o' l' (.ex c') => decide (i = i') && decide (o = o') && decide (l = l') && decide (c = c')
  | .slc i o l (.blk c), .slc i' o' l' (.blk c') => decide (i = i') && decide (o = o') && decide (l = l') && decide (c = c')
  | .nilslc, .nilslc => true
  | .nilmap, .nilmap => true
  | .nilfunc, .nilfunc => true
  | .niliface, .niliface => true
  | .yld i, .yld j => decide (i = j)
  | .zs i o s l n, .zs i' o' s' l' n' => decide (i = i') && decide (o = o') && decide (s = s') && decide (l = l') && decide (n = n')
  | .func (.func f) a c, .func (.func f') a' c' => decide (f = f') && AVs.beq a a' && AVs.beq c c'
  | .iface t v, .iface t' v' => decide (t = t') && AV.beq v v'
  | .agg l, .agg l' => AVs.beq l l'
  | .tup l, .tup l' => AVs.beq l l'
  | _, _ => false
def AVs.beq : List AV → List AV → Bool
  | [], [] => true
  | v :: l, v' :: l' => AV.beq v v' && AVs.beq l l'
  | _, _ => false
end
theorem neq_eq : ∀ {s t : List Nat}, neq s t = true → s = t
  | [], [], _ => rfl
  | [], b :: t, h => by simp [neq] at h
  | a :: s, [], h => by simp [neq] at h
  | a :: s, b :: t, h => by
    simp only [neq, Bool.and_eq_true, decide_eq_true_eq] at h
    rw [h.1, neq_eq h.2]
mutual
theorem AV.beq_eq : ∀ (a b : AV), AV.beq a b = true → a = b
  | .int k n, b, h => by cases b <;> simp_all [AV.beq]
  | .bool x, b, h => by cases b <;> simp_all [AV.beq]
  | .flt k n, b, h => by cases b <;> simp_all [AV.beq]
  | .str s, b, h => by
    cases b <;> simp [AV.beq] at h
    rw [neq_eq h]
  | .ptr i o, b, h => by cases b <;> simp_all [AV.beq]
  | .nilptr, b, h => by cases b <;> simp_all [AV.beq]
  | .slc i o l c, b, h => by
    cases b <;> try (simp [AV.beq] at h; done)
    rename_i i' o' l' c'
    cases c <;> cases c' <;> simp_all [AV.beq]
  | .nilslc, b, h => by cases b <;> simp_all [AV.beq]
  | .nilmap, b, h => by cases b <;> simp_all [AV.beq]
  | .nilfunc, b, h => by cases b <;> simp_all [AV.beq]
  | .niliface, b, h => by cases b <;> simp_all [AV.beq]
  | .yld i, b, h => by cases b <;> simp_all [AV.beq]
  | .zs i o s l n, b, h => by cases b <;> simp_all [AV.beq]
  | .func fn x y, b, h => by
    cases b <;> try (simp [AV.beq] at h; done)
    rename_i fn' x' y'
    cases fn <;> cases fn' <;> simp [AV.beq] at h
    obtain ⟨⟨rfl, h1⟩, h2⟩ := h
    rw [AVs.beq_eq x x' h1, AVs.beq_eq y y' h2]
  | .iface t v, b, h => by
    cases b <;> simp [AV.beq] at h
    rename_i t' v'
    obtain ⟨rfl, h1⟩ := h
    rw [AV.beq_eq v v' h1]
  | .agg l, b, h => by
    cases b <;> simp [AV.beq] at h
    rename_i l'
    rw [AVs.beq_eq l l' h]
  | .tup l, b, h => by
    cases b <;> simp [AV.beq] at h
    rename_i l'
    rw [AVs.beq_eq l l' h]
theorem AVs.beq_eq : ∀ (a b : List AV), AVs.beq a b = true → a = b
  | [], b, h => by cases b <;> simp_all [AVs.beq]
  | v :: l, b, h => by
    cases b with
    | nil => simp [AVs.beq] at h
    | cons v' l' =>
      simp only [AVs.beq, Bool.and_eq_true] at h
      rw [AV.beq_eq v v' h.1, AVs.beq_eq l l' h.2]
end
def ABlk.beq : ABlk → ABlk → Bool
  | .cells cs e o w, .cells cs' e' o' w' => AVs.beq cs cs' && decide (e = e') && decide (o = o') && decide (w = w')
  | .sit s p, .sit s' p' => neq s s' && decide (p = p')
  | _, _ => false
theorem ABlk.beq_eq {a b : ABlk} (h : ABlk.beq a b = true) : a = b := by
  cases a <;> cases b <;> simp [ABlk.beq] at h
  · obtain ⟨⟨⟨h1, rfl⟩, rfl⟩, rfl⟩ := h
    rw [AVs.beq_eq _ _ h1]
  · obtain ⟨h1, rfl⟩ := h
    rw [neq_eq h1]
def Bl.beq : Bl → Bl → Bool
  | [], [] => true
  | (i, none) :: l, (j, none) :: m => decide (i = j) && Bl.beq l m
  | (i, some a) :: l, (j, some b) :: m => decide (i = j) && ABlk.beq a b && Bl.beq l m
  | _, _ => false
theorem Bl.beq_eq : ∀ {l m : Bl}, Bl.beq l m = true → l = m
  | [], [], _ => rfl
  | [], _ :: _, h => by simp [Bl.beq] at h
  | (i, none) :: l, [], h => by simp [Bl.beq] at h
  | (i, some a) :: l, [], h => by simp [Bl.beq] at h
  | (i, none) :: l, (j, none) :: m, h => by
    simp only [Bl.beq, Bool.and_eq_true, decide_eq_true_eq] at h
    rw [h.1, Bl.beq_eq h.2]
  | (i, none) :: l, (j, some b) :: m, h => by simp [Bl.beq] at h
  | (i, some a) :: l, (j, none) :: m, h => by simp [Bl.beq] at h
  | (i, some a) :: l, (j, some b) :: m, h => by
    simp only [Bl.beq, Bool.and_eq_true, decide_eq_true_eq] at h
    rw [h.1.1, ABlk.beq_eq h.1.2, Bl.beq_eq h.2]

/-! ### What is still reached -/
mutual
def AV.ids : AV → List Nat
  | .ptr i _ => [i]
  | .slc i _ _ _ => [i]
  | .yld i => [i]
  | .zs i _ _ _ _ => [i]
  | .func _ a c => AVs.ids a ++ AVs.ids c
  | .iface _ v => AV.ids v
  | .agg l => AVs.ids l
  | .tup l => AVs.ids l
  | _ => []
def AVs.ids : List AV → List Nat
  | [] => []
  | v :: l => AV.ids v ++ AVs.ids l
end
def ABlk.ids : ABlk → List Nat
  | .cells cs _ _ _ => AVs.ids cs
  | .sit _ _ => []
  | .dfr => []
  | .lp _ _ A _ _ _ D => D :: AVs.ids A
def memN (n : Nat) : List Nat → Bool
  | [] => false
  | m :: l => if m = n then true else memN n l
/-- From the numbers 'todo' on, those from n0 on that blocks of 'ov' lead to. -/
def reach (n0 : Nat) (ov : Bl) : Nat → List Nat → List Nat → List Nat
  | 0, _, seen => seen
  | _ + 1, [], seen => seen
  | fuel + 1, i :: todo, seen =>
    if i < n0 then reach n0 ov fuel todo seen
    else if memN i seen then reach n0 ov fuel todo seen
    else match look ov i with
      | some (some b) => reach n0 ov fuel (ABlk.ids b ++ todo) (i :: seen)
      | _ => reach n0 ov fuel todo (i :: seen)
def oldIds (n0 : Nat) : Bl → List Nat
  | [] => []
  | (i, some b) :: l => if i < n0 then ABlk.ids b ++ oldIds n0 l else oldIds n0 l
  | (_, none) :: l => oldIds n0 l
def keepOv (n0 : Nat) (seen : List Nat) : Bl → Bl
  | [] => []
  | (i, b) :: l => if i < n0 then (i, b) :: keepOv n0 seen l else if memN i seen then (i, b) :: keepOv n0 seen l else keepOv n0 seen l
def mergeOv (n0 : Nat) (kept ov : Bl) : Bl :=
  match kept with
  | [] => ov
  | (i, b) :: l => if i < n0 then upd (mergeOv n0 l ov) i b else (i, b) :: mergeOv n0 l ov
theorem look_mergeOv (n0 : Nat) (ov : Bl) : ∀ (kept : Bl) (k : Nat), look (mergeOv n0 kept ov) k = match look kept k with | some b => some b | none => look ov k
  | [], k => rfl
  | (i, b) :: l, k => by
    have ih := look_mergeOv n0 ov l k
    simp only [mergeOv]
    split
    · rw [look_upd, ih]
      by_cases h : i = k <;> simp [look, h]
    · simp only [look, ih]
      by_cases h : i = k <;> simp [h]
theorem look_keepOv (n0 : Nat) (seen : List Nat) : ∀ (ov : Bl) (k : Nat), look (keepOv n0 seen ov) k = look ov k ∨ (look (keepOv n0 seen ov) k = none ∧ n0 ≤ k)
  | [], k => .inl rfl
  | (i, b) :: l, k => by
    have ih := look_keepOv n0 seen l k
    simp only [keepOv]
    by_cases h1 : i < n0
    · simp only [h1, if_true, look]
      by_cases h : i = k
      · simp [h]
      · simpa [h] using ih
    · by_cases h2 : memN i seen = true
      · simp only [h1, if_false, h2, if_true, look]
        by_cases h : i = k
        · simp [h]
        · simpa [h] using ih
      · simp only [h1, if_false, h2, look, Bool.false_eq_true]
        by_cases h : i = k
        · subst h
          right
          refine ⟨?_, by omega⟩
          clear ih
          induction l with
          | nil => rfl
          | cons p l ih =>
            obtain ⟨j, c⟩ := p
            simp only [keepOv]
            by_cases hj1 : j < n0
            · have : ¬ j = i := by omega
              simp only [hj1, if_true, look, this, if_false]
              exact ih
            · by_cases hj2 : memN j seen = true
              · have : ¬ j = i := fun e => h2 (e ▸ hj2)
                simp only [hj1, if_false, hj2, if_true, look, this]
                exact ih
              · simp only [hj1, if_false, hj2, Bool.false_eq_true]
                exact ih
        · simpa [h] using ih
theorem mem_keepOv {n0 : Nat} {seen : List Nat} : ∀ {ov : Bl} {p : Nat × Option ABlk}, p ∈ keepOv n0 seen ov → p ∈ ov
  | [], p, h => by simp [keepOv] at h
  | (i, b) :: l, p, h => by
    simp only [keepOv] at h
    split at h
    · rcases List.mem_cons.1 h with rfl | h
      · simp
      · simp [mem_keepOv h]
    · split at h
      · rcases List.mem_cons.1 h with rfl | h
        · simp
        · simp [mem_keepOv h]
      · simp [mem_keepOv h]
theorem mergeOv_bnd {n0 n : Nat} {ov : Bl} (h : ∀ p ∈ ov, p.1 < n) : ∀ {kept : Bl}, (∀ p ∈ kept, p.1 < n) → ∀ p ∈ mergeOv n0 kept ov, p.1 < n
  | [], _, p, hp => h p hp
  | (i, b) :: l, hk, p, hp => by
    have ih := mergeOv_bnd (n0 := n0) h (kept := l) (fun q hq => hk q (by simp [hq]))
    simp only [mergeOv] at hp
    split at hp
    · exact upd_bnd ih (hk (i, b) (by simp)) b p hp
    · rcases List.mem_cons.1 hp with rfl | hp
      · exact hk _ (by simp)
      · exact ih p hp

/-- Behind a call: what it has turned of the caller's, and what its answer leads to. S: ahead of the call; R: behind it, over the caller's as its base. -/
def back (S : St) (v : List AV) (R : St) : St :=
  let seen := reach S.nxt R.ov 100000 (AVs.ids v ++ oldIds S.nxt R.ov) []
  { ov := mergeOv S.nxt (keepOv S.nxt seen R.ov) S.ov, base := S.base, nxt := R.nxt, dl := S.dl, rnd := S.rnd }
section
variable {P : Program} {G B : Nat} {w0 w : World} {ε : Env} {S : St}
theorem Rel.back {R : St} {v : List AV} (h : Rel G B w0 ε R w) (hb : R.base = S.ov ++ S.base) (h1 : ∀ p ∈ S.ov, p.1 < S.nxt) (h2 : ∀ p ∈ S.base, p.1 < S.nxt) (hn : S.nxt ≤ R.nxt) :
    Rel G B w0 ε (back S v R) w := by
  have b1 : ∀ p ∈ S.ov, p.1 < R.nxt := fun p hp => Nat.lt_of_lt_of_le (h1 p hp) hn
  refine h.sub rfl ?_ (fun p hp => Nat.lt_of_lt_of_le (h2 p hp) hn) ?_
  · exact mergeOv_bnd b1 fun p hp => h.bov p (mem_keepOv hp)
  · intro i b hget
    simp only [Go.Rx.back, St.get, look_mergeOv] at hget
    simp only [St.get, hb, look_append]
    rcases look_keepOv S.nxt (reach S.nxt R.ov 100000 (AVs.ids v ++ oldIds S.nxt R.ov) []) R.ov i with hk | ⟨hk, hi⟩
    · rw [hk] at hget
      cases hr : look R.ov i with
      | some c => simp only [hr] at hget ⊢; exact hget
      | none =>
        simp only [hr] at hget ⊢
        cases hs : look S.ov i with
        | some c => simp only [hs] at hget ⊢; exact hget
        | none => simp only [hs] at hget ⊢; exact hget
    · rw [hk] at hget
      simp only [look_none_of_bnd h1 i hi, look_none_of_bnd h2 i hi] at hget
      cases hget
/-- The world ahead of a call, as the callee's base. -/
def into (S : St) : St := { ov := [], base := S.ov ++ S.base, nxt := S.nxt }
theorem Rel.into (h : Rel G B w0 ε S w) : Rel G B w0 ε (into S) w := by
  refine h.sub rfl (by simp [Go.Rx.into]) ?_ ?_
  · intro p hp
    simp only [Go.Rx.into, List.mem_append] at hp
    rcases hp with hp | hp
    · exact h.bov p hp
    · exact h.bba p hp
  · intro i b hget
    simp only [Go.Rx.into, St.get, look, look_append] at hget
    simp only [St.get]
    cases hr : look S.ov i with
    | some c => simp only [hr] at hget ⊢; exact hget
    | none => simp only [hr] at hget ⊢; exact hget
end

/-! ### The executor -/
inductive XE where
  | normal
  | exit (id : Nat)
  | ret
def XE.out : XE → Exit
  | .normal => .normal
  | .exit id => .exit id
  | .ret => .ret
/-- The jump that a round's body leaves by. -/
def XE.jump : XE → Option Code
  | .normal => none
  | .exit id => some (.exit id)
  | .ret => some .ret
/-- S' with what S says of the activation. -/
def St.of (S S' : St) : St := { S' with dl := S.dl, rnd := S.rnd }
/-- The record of a loop, in another state. -/
def lpSet (S : St) (i : Nat) (st : LoopState) (pend : Option Code) : Option St :=
  match S.get i with
  | some (.lp _ _ A ps assign body D) => some (S.put i (some (.lp st pend A ps assign body D)))
  | _ => none
def loopOf (S : St) (i : Nat) : Option (LoopState × Option Code) :=
  match S.get i with
  | some (.lp st pend _ _ _ _ _) => some (st, pend)
  | _ => none
/-- The deferred calls, at a function's end. -/
def xLeave (I : List (FuncId × Nat)) : List AD → St → Option St
  | [], S => some S
  | .idle f n :: l, S => if I.any fun p => decide (p.1 = f) && decide (p.2 = n) then xLeave I l S else none
  | .coll i :: l, S => match S.get i with
    | some .dfr => xLeave I l (S.put i none)
    | _ => none
inductive Job where
  | code (c : Code) (A : List AV) (S : St)
  | rounds (c : Code) (A : List AV) (S : St)
  | call (f : FuncId) (args : List AV) (S : St)
  | draw (S0 : St) (W : List Nat) (all : Array Oper) (left : Nat) (listed : Array Bool) (A : List AV) (S : St)
  | rest (S0 : St) (W : List Nat) (all : Array Oper) (left : Nat) (listed : Array Bool) (is : List Nat) (A : List AV) (S : St) (A' : List AV) (S' : St)
  | one (S0 : St) (W : List Nat) (all : Array Oper) (left : Nat) (listed : Array Bool) (i : Nat) (A : List AV) (S : St)
abbrev Out := XE × List AV × St

def xput (A : List AV) (dst : Option Tmp) (v : AV) : List AV :=
  match dst with
  | some d => setN v A d
  | none => A
def xyield (all : Array Oper) (A : List AV) (j : Nat) : Option Bool :=
  match (all[j]?).bind (·.dst) with
  | some t => match A[t]? with
    | some (.bool b) => some b
    | _ => none
  | none => none
def xwanted (all : Array Oper) (A : List AV) (o : Oper) : Bool :=
  match o.guard with
  | none => true
  | some (j, want) => match xyield all A j with
    | some b => b == want
    | none => false
def xres (P : Program) (A : List AV) (S : St) : List ResultVar → Option (List AV)
  | [] => some []
  | .tmp t :: l => match xres P A S l with
    | some vs => some (A.getD t (.tup []) :: vs)
    | none => none
  | .cell a t :: l => match xLoad P t (A.getD a (.tup [])) S with
    | some v => match xres P A S l with
      | some vs => some (v :: vs)
      | none => none
    | none => none
def packRes : List AV → AV
  | [v] => v
  | l => .tup l
def rdy (listed : Array Bool) : List Oper → Nat → List Nat
  | [], _ => []
  | o :: l, i => if !listed.getD i true && o.after.toList.all (fun e => !Region.binds .any e || listed.getD e.on false) then i :: rdy listed l (i + 1) else rdy listed l (i + 1)
/-- A load of a block that the region does not write. -/
def xheld (P : Program) (G : Nat) (S0 : St) (W : List Nat) (A : List AV) (o : Oper) : Option AV :=
  match o.op with
  | .load t a => match ev G A a with
    | some (.ptr i off) => if memN i W then none else xLoad P t (.ptr i off) S0
    | _ => none
  | _ => none
/-- Of operations that may come up: one that yields its value in whatever world, or in whatever world that has the blocks that the region does not write, or is not wanted. -/
def firstPure (P : Program) (G : Nat) (S0 : St) (W : List Nat) (all : Array Oper) (A : List AV) : List Nat → Option (Nat × Oper × AV)
  | [] => none
  | i :: is => match all[i]? with
    | some o => if xwanted all A o then match xpure P G A o with
        | some v => some (i, o, v)
        | none => match xheld P G S0 W A o with
          | some v => some (i, o, v)
          | none => firstPure P G S0 W all A is
      else some (i, o, .tup [])
    | none => firstPure P G S0 W all A is
def hasEdge (o : Oper) (i : Nat) : Bool := o.after.toList.any fun e => Region.binds .any e && decide (e.on = i)
/-- Any two operations of which none waits for the other are apart. -/
def apartAll (all : Array Oper) : Bool :=
  all.toList.zipIdx.all fun (x, i) => all.toList.zipIdx.all fun (y, j) => decide (i = j) || hasEdge y i || hasEdge x j || x.apart all y
def obeq : Option ABlk → Option ABlk → Bool
  | some a, some b => ABlk.beq a b
  | none, none => true
  | _, _ => false
/-- What was told at the region's head is told still, but for the numbers in W. (Over one base.) -/
def agreeB (S0 : St) (W : List Nat) (S : St) : Bool :=
  (S0.ov.all fun (i, b) => memN i W || (match look S.ov i with | some b' => obeq b b' | none => false)) &&
  (S.ov.all fun (i, _) => decide (S0.nxt ≤ i) || memN i W || (look S0.ov i).isSome)
def written (S0 : St) (S : St) : List Nat :=
  S.ov.filterMap fun (i, b) => if S0.nxt ≤ i then none else match look S0.ov i with
    | some b0 => if obeq b0 b then none else some i
    | none => some i

/-- A call whose answer is known: function, arguments, answer; nothing that was there turns, nothing that it makes is told of. -/
abbrev Facts := List (FuncId × List AV × AV)
def fact : Facts → FuncId → List AV → Option AV
  | [], _, _ => none
  | (g, as, v) :: l, f, args => if g = f then (if AVs.beq as args then some v else fact l f args) else fact l f args

structure Cfg where
  P : Program
  G : Nat
  E : Ext
  F : Facts
  I : List (FuncId × Nat)
abbrev Rec := Job → Option Out

/-- One operation's outcome; calls by r. 'rd': rounds and deferred calls may come. -/
def stepN (r : Rec) (rd : Bool) (o : Oper) (A : List AV) (S : St) : NX → Option Out
  | .val v S' => some (.normal, xput A o.dst v, S.of S')
  | .unit S' => some (.normal, xput A o.dst (.tup []), S.of S')
  | .enter f args S' => match r (.call f args (S.of S')) with
    | some (_, [v], S'') => some (.normal, xput A o.dst v, S'')
    | _ => none
  | .dfr d S' => match rd, S.rnd with
    | true, none => some (.normal, xput A o.dst (.tup []), { S.of S' with dl := d :: S.dl })
    | _, _ => none
  | .round i A1 assign body S' => match rd, r (.code assign A1 { S' with dl := [], rnd := some i }) with
    | true, some (.normal, A2, S2) => match loopOf S2 i with
      | some (.ready, pend) => match lpSet S2 i .busy pend with
        | some S3 => match r (.code body A2 S3) with
          | some (e, _, S4) => match lpSet S4 i (if e.jump.isNone then .ready else .done) e.jump with
            | some S5 => some (.normal, xput A o.dst (.bool e.jump.isNone), S.of S5)
            | none => none
          | none => none
        | none => none
      | _ => none
    | _, _ => none
def stepF (K : Cfg) (r : Rec) (rd : Bool) (o : Oper) (A : List AV) (S : St) : Option Out :=
  match xop K.P K.G K.E A S o with
  | some n => stepN r rd o A S n
  | none => none
def opsC (K : Cfg) (r : Rec) (all : Array Oper) (o : Oper) (ih : List AV → St → Option Out) (A : List AV) (S : St) : Option Out :=
  match xwanted all A o with
  | true => match stepF K r true o A S with
    | some (_, A', S') => ih A' S'
    | none => none
  | false => ih (xput A o.dst (.tup [])) S
def opsF (K : Cfg) (r : Rec) (all : Array Oper) (l : List Oper) : List AV → St → Option Out :=
  List.rec (motive := fun _ => List AV → St → Option Out) (fun A S => some (.normal, A, S)) (fun o _ ih A S => opsC K r all o ih A S) l

def codeSeq (r : Rec) (b : Code) : Option Out → Option Out
  | some (.normal, A', S') => r (.code b A' S')
  | x => x
def codeCond (r : Rec) (t e : Code) (A : List AV) (S : St) : Option AV → Option Out
  | some (.bool true) => r (.code t A S)
  | some (.bool false) => r (.code e A S)
  | _ => none
def codeBlock (id : Nat) : Option Out → Option Out
  | some (.exit id', A', S') => some (if id' = id then .normal else .exit id', A', S')
  | x => x
def codeDraw (K : Cfg) (r : Rec) (ops : Array Oper) (A : List AV) (S : St) : Option Out :=
  match S.rnd, Region.noSelect ops && apartAll ops with
  | none, true => match opsF K r ops ops.toList A S with
    | some (_, _, S1) => r (.draw S (written S S1) ops ops.size (Array.replicate ops.size false) A S)
    | none => none
  | _, _ => none
def codeRange2 (r : Rec) (A : List AV) (S S2 : St) : Option Out :=
  match loopOf S2 (S.nxt + 1) with
  | some (.busy, _) => none
  | some (_, pend) => match lpSet S2 (S.nxt + 1) .exhausted pend with
    | some S3 => match pend with
      | none => some (.normal, A, { S3 with dl := .coll S.nxt :: S.dl })
      | some c => r (.code c A { S3 with dl := .coll S.nxt :: S.dl })
    | none => none
  | _ => none
def codeRange (K : Cfg) (r : Rec) (g : Operand) (ps : Array Tmp) (assign body : Code) (A : List AV) (S : St) : Option Out :=
  match S.rnd, ev K.G A g with
  | none, some (.func (.func f) first captured) => match funcOk K.P f with
    | true => match r (.call f (first ++ [.yld (S.nxt + 1)] ++ captured) ((S.new .dfr).new (.lp .ready none A ps assign body S.nxt))) with
      | some (_, _, S2) => codeRange2 r A S S2
      | none => none
    | false => none
  | _, _ => none
def codeF (K : Cfg) (r : Rec) (c : Code) (A : List AV) (S : St) : Option Out :=
  match c with
  | .skip => some (.normal, A, S)
  | .label _ => some (.normal, A, S)
  | .seq a b => codeSeq r b (r (.code a A S))
  | .cond c t e => codeCond r t e A S (ev K.G A c)
  | .block id body => codeBlock id (r (.code body A S))
  | .loop body => r (.rounds body A S)
  | .scope body => match S.rnd with
    | none => r (.code body A S)
    | some _ => none
  | .exit id => some (.exit id, A, S)
  | .ret => some (.ret, A, S)
  | .region _ ops false => opsF K r ops ops.toList A S
  | .region _ ops true => codeDraw K r ops A S
  | .rangeFunc g ps assign body => codeRange K r g ps assign body A S
  | .goto _ => none
  | .refuse _ => none
def roundsF (r : Rec) (c : Code) : Option Out → Option Out
  | some (.normal, A', S') => r (.rounds c A' S')
  | x => x
def callRes (K : Cfg) (fn : Func) (A' : List AV) (S S' : St) : Option Out :=
  match xLeave K.I S'.dl S' with
  | some S' => match xres K.P A' S' fn.results.toList with
    | some vs => some (.ret, [packRes vs], back S vs S')
    | none => none
  | none => none
def callF (K : Cfg) (r : Rec) (f : FuncId) (args : List AV) (S : St) : Option Out :=
  match fact K.F f args with
  | some v => some (.ret, [v], S)
  | none => match K.P.funcs[f]? with
    | some fn => match fn.body with
      | some c => match r (.code c (args ++ List.replicate (fn.ntmps - args.length) (.tup [])) (into S)) with
        | some (.exit _, _, _) => none
        | some (_, A', S') => callRes K fn A' S S'
        | none => none
      | none => none
    | none => none
def drawF (K : Cfg) (r : Rec) (S0 : St) (W : List Nat) (all : Array Oper) (left : Nat) (listed : Array Bool) (A : List AV) (S : St) : Option Out :=
  match rdy listed all.toList 0 with
  | [] => some (.normal, A, S)
  | i :: is => match left with
    | 0 => none
    | left + 1 => match firstPure K.P K.G S0 W all A (i :: is) with
      | some (j, o, v) => r (.draw S0 W all left (listed.setIfInBounds j true) (xput A o.dst v) S)
      | none => match r (.one S0 W all left listed i A S) with
        | some (_, A', S') => r (.rest S0 W all left listed is A S A' S')
        | none => none
def restF (r : Rec) (S0 : St) (W : List Nat) (all : Array Oper) (left : Nat) (listed : Array Bool) (is : List Nat) (A : List AV) (S : St) (A' : List AV) (S' : St) : Option Out :=
  match is with
  | [] => some (.normal, A', S')
  | j :: js => match r (.one S0 W all left listed j A S) with
    | some (_, A'', S'') => match AVs.beq A'' A' && Bl.beq S''.ov S'.ov && decide (S''.nxt = S'.nxt) with
      | true => r (.rest S0 W all left listed js A S A' S')
      | false => none
    | none => none
def oneF (K : Cfg) (r : Rec) (S0 : St) (W : List Nat) (all : Array Oper) (left : Nat) (listed : Array Bool) (i : Nat) (A : List AV) (S : St) : Option Out :=
  match all[i]? with
  | some o => match xwanted all A o with
    | true => match stepF K r false o A S with
      | some (_, A', S') => match agreeB S0 W S' with
        | true => r (.draw S0 W all left (listed.setIfInBounds i true) A' S')
        | false => none
      | none => none
    | false => r (.draw S0 W all left (listed.setIfInBounds i true) (xput A o.dst (.tup [])) S)
  | none => none
def XF (K : Cfg) (r : Rec) : Job → Option Out
  | .code c A S => codeF K r c A S
  | .rounds c A S => roundsF r c (r (.code c A S))
  | .call f args S => callF K r f args S
  | .draw S0 W all left listed A S => drawF K r S0 W all left listed A S
  | .rest S0 W all left listed is A S A' S' => restF r S0 W all left listed is A S A' S'
  | .one S0 W all left listed i A S => oneF K r S0 W all left listed i A S
/-- The executor. -/
def X (K : Cfg) (n : Nat) : Job → Option Out := Nat.rec (motive := fun _ => Job → Option Out) (fun _ => none) (fun _ r job => XF K r job) n
end
end Go.Rx
