/- ParseSame: what an argument that reads as a node holds. -/
import Derived.Test.YtlealmffhmhchaaGreatDoorPaD
import Derived.Test.YtlealmffhmhchaaGreatDoorEzA
import Derived.ChangeArms
import Derived.OpenShut
namespace Go.Proofs.Pa
open Go.Ex Go.RowKit
noncomputable section
/-- All that stands. -/
def Rd (W : World) : Env := ⟨fun g => if g < 24 then some g else none, fun _ => 0, fun b => W.heap[b]?, fun b => W.heap[b]?, 24⟩
theorem Rd_cl (W : World) : (Rd W).cl = Rd W := rfl
theorem gcons {ε : Env} {v : AV} {l : List AV} {x : Value} {ys : List Value} (h : γ ε v x) (hl : γs ε l ys) : γs ε (v :: l) (x :: ys) := γs_cons.2 ⟨x, ys, h, hl, rfl⟩
theorem gnil {ε : Env} : γs ε [] [] := γs_nil.2 rfl
theorem g1 {ε : Env} {v : AV} {x : Value} (h : γs ε [v] [x]) : γ ε v x := by
  obtain ⟨y, ys, h1, h2, h3⟩ := γs_cons.1 h
  simp at h3
  rw [h3.1]; exact h1
theorem bs_of (s : ByteArray) : ∃ l, okb l = true ∧ s = bs l := by
  refine ⟨s.data.toList.map UInt8.toNat, ?_, ?_⟩
  · simp only [okb, List.all_map, List.all_eq_true, Function.comp]
    intro c _
    simpa using c.toNat_lt
  · cases s with
    | mk d =>
      simp only [bs, List.map_map]
      congr 1
      rw [show (UInt8.ofNat ∘ UInt8.toNat) = id from funext fun c => by simp]
      simp
section
variable {H : Type} {enc' : TypeId × Value → H} {W : World} {held : Bool} {spare : Nat → Bool} {fuel : Nat} {t : TypeId} {cs : List Value} {x : DataW H × List MemPlace}
theorem rd_fields {P : Program} {fs : Array Field} (ht : P.underlying t = some (.struct fs)) (h : DataW.trod enc' P W 0 spare held fuel t cs = some x) :
    ∃ n, fuel = n + 1 ∧ cs.length = P.cellsOf t ∧ ∀ (i : Nat) (f : Field), fs[i]? = some f → ∃ y, DataW.trod enc' P W 0 spare held n f.type ((cs.drop f.offset).take (P.cellsOf f.type)) = some y := by
  obtain ⟨xs, n, h1, _, h2, h3, h4⟩ := DataW.trod_struct ht h
  refine ⟨n, h1, h2, fun i f hf => ?_⟩
  have hi : i < xs.length := by rw [h3]; exact (Array.getElem?_eq_some_iff.1 hf).1
  exact ⟨xs[i], by rw [h4 i f hf]; exact List.getElem?_eq_getElem hi⟩
theorem rd_str {P : Program} (ht : P.underlying t = some .string) (h : DataW.trod enc' P W 0 spare held fuel t cs = some x) : ∃ l, γs (Rd W) [.str l] cs := by
  obtain ⟨s, rfl, _, _⟩ := DataW.trod_string ht h
  obtain ⟨l, h1, rfl⟩ := bs_of s
  exact ⟨l, gcons (by simp [γ, h1]) gnil⟩
theorem rd_int {P : Program} {k : IntKind} (ht : P.underlying t = some (.int k)) (h : DataW.trod enc' P W 0 spare held fuel t cs = some x) : ∃ n, γs (Rd W) [.int k n] cs := by
  obtain ⟨n, rfl, _, _⟩ := DataW.trod_int ht h
  exact ⟨n, gcons (by simp [γ]) gnil⟩
theorem rd_bool {P : Program} (ht : P.underlying t = some .bool) (h : DataW.trod enc' P W 0 spare held fuel t cs = some x) : ∃ b, γs (Rd W) [.sb b] cs := by
  obtain ⟨b, rfl, _⟩ := DataW.trod_bool ht h
  exact ⟨b, gcons (by simp [γ]) gnil⟩
/-- A slice: its elements, one by one. -/
theorem rd_slice {P : Program} {α : Type} [Inhabited α] (en : α → List AV) (Good : α → Prop) {n : Nat} {e : TypeId} (hn0 : 0 < n) (ht : P.underlying t = some (.slice e)) (hn : P.cellsOf e = n)
    (hel : ∀ m, m < fuel → ∀ (cs' : List Value) (y : DataW H × List MemPlace), DataW.trod enc' P W 0 spare held m e cs' = some y → ∃ d : α, γs (Rd W) (en d) cs' ∧ Good d)
    (h : DataW.trod enc' P W 0 spare held fuel t cs = some x) : ∃ (z : Bool) (len : Nat) (D : Nat → α), γs (Rd W) [.snap n z len (fun i => en (D i))] cs ∧ len ≤ 9223372036854775807 ∧ ∀ i, i < len → Good (D i) := by
  rcases DataW.trod_slice ht h with ⟨rfl, _⟩ | ⟨a, len, cap, elems, rest, m, rfl, rfl, _, _, hlc, hcap, hlen, hes, _, _⟩
  · exact ⟨true, 0, fun _ => default, gcons (by simp [γ]) gnil, by omega, fun i hi => by omega⟩
  · have hle : len ≤ 9223372036854775807 := by simp only [maxLen] at hcap; omega
    have hone : ∀ i, i < len → ∃ d : α, ∃ cs', W.cells? 0 (a.add (i * n)) n = some cs' ∧ γs (Rd W) (en d) cs' ∧ Good d := by
      intro i hi
      have h1 := hes i hi
      rw [List.getElem?_eq_getElem (by omega), hn] at h1
      obtain ⟨cs', h2, h3⟩ := Option.bind_eq_some_iff.1 h1
      obtain ⟨d, h4⟩ := hel m (by omega) cs' _ h3
      exact ⟨d, cs', h2, h4⟩
    obtain ⟨D, hD⟩ : ∃ D : Nat → α, ∀ i, i < len → ∃ cs', W.cells? 0 (a.add (i * n)) n = some cs' ∧ γs (Rd W) (en (D i)) cs' ∧ Good (D i) :=
      ⟨fun i => if hi : i < len then (hone i hi).choose else default, fun i hi => by simp only [hi, dif_pos]; exact (hone i hi).choose_spec⟩
    have cells : ∀ (i : Nat) (cs' : List Value), W.cells? 0 (a.add (i * n)) n = some cs' → cs'.length = n ∧ ∀ j, j < n → W.cell? ((a.add (i * n)).add j) = cs'[j]? := by
      intro i cs' h1
      simp only [World.cells?, Nat.zero_le, if_true] at h1
      exact ⟨by simpa using mapM_some_length h1, fun j hj => mapM_some_get h1 j j (by simp [hj])⟩
    refine ⟨false, len, D, gcons ?_ gnil, hle, fun i hi => (hD i hi).choose_spec.2.2⟩
    simp only [γ]
    refine .inr ⟨trivial, a.block, a.off, cap, a.spot, by cases a; rfl, hlc, ?_⟩
    rcases Nat.eq_zero_or_pos len with h0 | h0
    · exact .inl h0
    · refine .inr ?_
      obtain ⟨c0, hc0, _⟩ := hD 0 h0
      obtain ⟨h2, h3⟩ := cells 0 c0 hc0
      have h3 := h3 0 hn0
      rw [Nat.zero_mul, Addr.add, if_pos rfl, Addr.add, if_pos rfl, List.getElem?_eq_getElem (by omega)] at h3
      simp only [World.cell?] at h3
      split at h3 <;> try (simp at h3; done)
      rename_i c ct cf hc
      split at h3 <;> try (simp at h3; done)
      rename_i hsp
      have hsp' : a.spot = none := by cases hs : a.spot <;> simp [hs] at hsp ⊢
      refine ⟨hsp', c, ct, cf, hc, fun i hi => ?_⟩
      obtain ⟨cs', h5, h6, _⟩ := hD i hi
      obtain ⟨h7, h8⟩ := cells i cs' h5
      refine ⟨cs', h6, h7, fun j v hj => ?_⟩
      have hjn : j < n := by rw [← h7]; exact (List.getElem?_eq_some_iff.1 hj).1
      have h9 := h8 j hjn
      rw [hj] at h9
      have ha : a = ⟨a.block, a.off, none⟩ := by cases a; simp only at hsp'; rw [hsp']
      rw [ha, addr_add, addr_add] at h9
      simp only [World.cell?, hc] at h9
      simpa using h9
end
end
end Go.Proofs.Pa
