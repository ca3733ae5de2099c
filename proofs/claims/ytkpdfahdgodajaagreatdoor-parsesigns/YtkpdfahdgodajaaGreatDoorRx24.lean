/- What the cells of a variable are that reads as a datum without pointers: an array, a struct, of numbers and bools. -/
import Derived.Test.YtkpdfahdgodajaaGreatDoorRx1
import Derived.LaidLaws
import Derived.Lib.LaidTab
namespace Go.Rx
open Go.RowKit
def litV : Lit → Option Value
  | .bool b => some (.bool b)
  | .int k n => some (.int k n)
  | .float k b => some (.float k b)
  | _ => none
/-- The parts' cells, one behind the other, each of n cells. -/
def flatEach (f : DataW Unit → Option (List Value)) (n : Nat) : List (DataW Unit) → Option (List Value)
  | [] => some []
  | d :: ds => match f d with
    | some vs => if vs.length = n then match flatEach f n ds with
      | some us => some (vs ++ us)
      | none => none
      else none
    | none => none
/-- A struct's parts, the fields lying one behind the other from 'at' on. -/
def flatFields (P : Program) (f : TypeId → DataW Unit → Option (List Value)) : Nat → List Field → List (DataW Unit) → Option (List Value)
  | _, [], [] => some []
  | o, x :: xs, d :: ds => if x.offset = o then match f x.type d with
    | some vs => if vs.length = P.cellsOf x.type then match flatFields P f (o + vs.length) xs ds with
      | some us => some (vs ++ us)
      | none => none
      else none
    | none => none
    else none
  | _, _, _ => none
def flat (P : Program) : Nat → TypeId → DataW Unit → Option (List Value)
  | 0, _, _ => none
  | fuel + 1, t, d => match P.underlying t, d with
    | some .bool, .lit l => (match litV l with | some v => some [v] | none => none)
    | some (.int _), .lit l => (match litV l with | some v => some [v] | none => none)
    | some (.float _), .lit l => (match litV l with | some v => some [v] | none => none)
    | some (.array n e), .agg ds => if n * P.cellsOf e = P.cellsOf t then flatEach (flat P fuel e) (P.cellsOf e) ds else none
    | some (.struct fs), .agg ds => match flatFields P (flat P fuel) 0 fs.toList ds with
      | some vs => if vs.length = P.cellsOf t then some vs else none
      | none => none
    | _, _ => none
section
variable {P : Program} {w : World} {base : Nat} {sp : Nat → Bool} {held : Bool}
theorem each_ok {f : DataW Unit → Option (List Value)} {e : TypeId} {m : Nat} {cs : List Value}
    (hf : ∀ d vs fuel cs p, DataW.trod (fun _ => ()) P w base sp held fuel e cs = some (d, p) → f d = some vs → cs = vs) :
    ∀ (ds : List (DataW Unit)) (k : Nat) (us : List Value), (∀ (j : Nat) (d : DataW Unit), ds[j]? = some d → ∃ fuel p, DataW.trod (fun _ => ()) P w base sp held fuel e ((cs.drop ((k + j) * m)).take m) = some (d, p)) →
      flatEach f m ds = some us → us = (cs.drop (k * m)).take (ds.length * m)
  | [], k, us, _, h => by simp [flatEach] at h; subst h; simp
  | d :: ds, k, us, hd, h => by
    simp only [flatEach] at h
    split at h <;> try (simp at h; done)
    rename_i vs hvs
    split at h <;> try (simp at h; done)
    rename_i hlen
    split at h <;> simp at h
    rename_i qs hqs
    subst h
    obtain ⟨fuel, p, h0⟩ := hd 0 d rfl
    have e0 := hf d vs fuel _ p h0 hvs
    have ih := each_ok hf ds (k + 1) qs (fun j d' hj => by
      obtain ⟨fuel, p, h1⟩ := hd (j + 1) d' (by simpa using hj)
      exact ⟨fuel, p, by rw [← h1]; congr 3; rw [Nat.add_assoc, Nat.add_comm 1 j]⟩) hqs
    rw [ih, ← e0]
    simp only [Nat.add_zero, List.length_cons]
    rw [Nat.succ_mul k m, Nat.succ_mul ds.length m, Nat.add_comm (ds.length * m) m, List.take_add, List.drop_drop]
theorem fields_ok {f : TypeId → DataW Unit → Option (List Value)} {cs : List Value}
    (hf : ∀ t d vs fuel cs p, DataW.trod (fun _ => ()) P w base sp held fuel t cs = some (d, p) → f t d = some vs → cs = vs) :
    ∀ (fs : List Field) (ds : List (DataW Unit)) (o : Nat) (us : List Value),
      (∀ (j : Nat) (x : Field) (d : DataW Unit), fs[j]? = some x → ds[j]? = some d → ∃ fuel p, DataW.trod (fun _ => ()) P w base sp held fuel x.type ((cs.drop x.offset).take (P.cellsOf x.type)) = some (d, p)) →
      flatFields P f o fs ds = some us → us = (cs.drop o).take us.length
  | [], [], o, us, _, h => by simp [flatFields] at h; subst h; simp
  | [], _ :: _, o, us, _, h => by simp [flatFields] at h
  | _ :: _, [], o, us, _, h => by simp [flatFields] at h
  | x :: fs, d :: ds, o, us, hd, h => by
    simp only [flatFields] at h
    split at h <;> try (simp at h; done)
    rename_i ho
    split at h <;> try (simp at h; done)
    rename_i vs hvs
    split at h <;> try (simp at h; done)
    rename_i hlen
    split at h <;> simp at h
    rename_i qs hqs
    subst h
    obtain ⟨fuel, p, h0⟩ := hd 0 x d rfl rfl
    have e0 := hf x.type d vs fuel _ p h0 hvs
    have ih := fields_ok hf fs ds (o + vs.length) qs (fun j y d' hj hj' => hd (j + 1) y d' (by simpa using hj) (by simpa using hj')) hqs
    rw [List.length_append, List.take_add, List.drop_drop, ← ih]
    congr 1
    rw [← e0, ho]
    simp [hlen, ← e0, ho]
theorem flat_ok : ∀ (f : Nat) (t : TypeId) (d : DataW Unit) (vs : List Value) (fuel : Nat) (cs : List Value) (p : List MemPlace),
    DataW.trod (fun _ => ()) P w base sp held fuel t cs = some (d, p) → flat P f t d = some vs → cs = vs
  | 0, t, d, vs, fuel, cs, p, _, h => by simp [flat] at h
  | f + 1, t, d, vs, 0, cs, p, h, _ => by simp [DataW.trod] at h
  | f + 1, t, d, vs, fuel + 1, cs, p, ht, h => by
    simp only [flat] at h
    split at h <;> try (simp at h; done)
    · rename_i l hu
      simp only [DataW.trod, hu] at ht
      split at ht <;> try (simp_all; done)
      rename_i b heq _
      simp only [Option.some.injEq, Prod.mk.injEq, DataW.lit.injEq] at ht
      obtain ⟨rfl, rfl⟩ := ht
      simp only [litV, Option.some.injEq] at h
      exact h
    · rename_i k l hu
      simp only [DataW.trod, hu] at ht
      split at ht <;> try (simp_all; done)
      rename_i k0 k' n heq
      split at ht <;> try (simp at ht; done)
      simp only [Option.some.injEq, Prod.mk.injEq, DataW.lit.injEq] at ht
      obtain ⟨rfl, rfl⟩ := ht
      simp only [litV, Option.some.injEq] at h
      rename_i hk
      rw [← h, hk.1]
    · rename_i k l hu
      simp only [DataW.trod, hu] at ht
      split at ht <;> try (simp_all; done)
      rename_i k0 k' n heq
      split at ht <;> try (simp at ht; done)
      simp only [Option.some.injEq, Prod.mk.injEq, DataW.lit.injEq] at ht
      obtain ⟨rfl, rfl⟩ := ht
      simp only [litV, Option.some.injEq] at h
      rename_i hk
      rw [← h, hk.1]
    · rename_i n e ds hu
      split at h <;> try (simp at h; done)
      rename_i hsz
      simp only [DataW.trod, hu] at ht
      split at ht <;> try (simp at ht; done)
      rename_i hl
      obtain ⟨xs, hm, hx⟩ := Option.map_eq_some_iff.1 ht
      simp at hx
      obtain ⟨rfl, rfl⟩ := hx
      have hxl : xs.length = n := by simpa using Lib.mapM_length hm
      have := each_ok (cs := cs) (fun d vs fuel cs p => flat_ok f e d vs fuel cs p) (xs.map (·.1)) 0 vs (fun j d hj => by
        simp only [List.getElem?_map, Option.map_eq_some_iff] at hj
        obtain ⟨x, hx, rfl⟩ := hj
        have hjl : j < n := by rw [← hxl]; exact (List.getElem?_eq_some_iff.1 hx).1
        obtain ⟨b, hb1, hb2⟩ := Lib.mapM_at hm j j (by simp [hjl])
        rw [hx] at hb1
        simp at hb1
        subst hb1
        exact ⟨fuel, x.2, by simpa using hb2⟩) h
      rw [this]
      simp [hxl, hsz, ← hl]
    · rename_i fs ds hu
      split at h <;> try (simp at h; done)
      rename_i us hus
      split at h <;> simp at h
      rename_i hsz
      subst h
      simp only [DataW.trod, hu] at ht
      split at ht <;> try (simp at ht; done)
      rename_i hl
      obtain ⟨xs, hm, hx⟩ := Option.map_eq_some_iff.1 ht
      simp at hx
      obtain ⟨rfl, rfl⟩ := hx
      have := fields_ok (cs := cs) (fun t d vs fuel cs p => flat_ok f t d vs fuel cs p) fs.toList (xs.map (·.1)) 0 us (fun j x d hj hj' => by
        simp only [List.getElem?_map, Option.map_eq_some_iff] at hj'
        obtain ⟨y, hy, rfl⟩ := hj'
        obtain ⟨b, hb1, hb2⟩ := Lib.mapM_at hm j x hj
        rw [hy] at hb1
        simp at hb1
        subst hb1
        exact ⟨fuel, y.2, by simpa using hb2⟩) hus
      rw [this, hsz, ← hl]
      simp
end
end Go.Rx
