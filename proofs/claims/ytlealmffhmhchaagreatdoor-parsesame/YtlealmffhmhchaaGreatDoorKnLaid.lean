/- known: the row's condition on the package-level variables is what the executor asks. -/
import Derived.Test.YtlealmffhmhchaaGreatDoorKnBase
import Derived.Test.YtlealmffhmhchaaGreatDoorRxC
import Derived.Test.YtlealmffhmhchaaGreatDoorRows
import Derived.Lib.LaidU8
import Derived.ProofKit
import Derived.Shelf.Vars
namespace Go.Proofs
open Go.RowKit Go.Rx Go.ChangeShapes
open YtlealmffhmhchaaGreatDoor in
/-- What one listed variable's cells are. -/
theorem Kn.cells_of {W : World} {l : List (String × DataW Unit)} (h : laidMet Tryz.prog l W) {n : String} {d : DataW Unit} (hm : (n, d) ∈ l) {g : Nat} {t : TypeId} (hg : Tryz.prog.globalNamed n = some g)
    (ht : (Tryz.prog.globals[g]?).map (·.type) = some t) {vs : List Value} (hf : flat Tryz.prog 4 t d = some vs) : W.var? Tryz.prog n = some vs.toArray := by
  obtain ⟨g', t', cs, fuel, p, h1, h2, h3, h4⟩ := Lib.laidMet.reads h hm
  obtain rfl := Option.some.inj (hg.symm.trans h1)
  obtain rfl := Option.some.inj (ht.symm.trans h2)
  have := flat_ok 4 _ d vs fuel cs.toList p h4 hf
  rw [h3, ← this]
theorem Kn.block_of {W : World} {n : String} {g : Nat} {cs : Array Value} (hg : Tryz.prog.globalNamed n = some g) (h : W.var? Tryz.prog n = some cs) : ∃ t fr, W.heap[g]? = some (.cells cs t fr) := by
  simp only [World.var?, hg, Option.bind_some] at h
  split at h <;> simp at h
  rename_i cs' t fr hh
  subst h
  exact ⟨t, fr, hh⟩
/-- The block of a package-level variable: its cells, its type, not frozen. -/
theorem Kn.shape_of {W : World} (hsh : W.ShapedOpen Tryz.prog) {n : String} {g t : Nat} {cs : Array Value} (hg : Tryz.prog.globalNamed n = some g) (hlt : g < 23)
    (ht : ((((begin Tryz.prog (fun _ _ => 0) default).world).heap[g]?).bind Obj.row?).map (·.2) = some t) (h : W.var? Tryz.prog n = some cs) : W.heap[g]? = some (.cells cs t (0, 0)) := by
  obtain ⟨p, hp, rfl⟩ := Option.map_eq_some_iff.1 ht
  obtain ⟨z, t⟩ := p
  have hsz : Tryz.prog.globals.size = 23 := by kernel_rfl
  obtain ⟨cs', h1, _⟩ := hsh.1 g z t (by omega) hp
  obtain ⟨t', fr, h2⟩ := Kn.block_of hg h
  rw [h2] at h1
  simp at h1
  obtain ⟨rfl, rfl, rfl⟩ := h1
  exact h2
noncomputable def Kn.ε : Env := ⟨fun k => if k < 24 then some k else none, fun _ => 0⟩
theorem Kn.live_of {W : World} (hsh : W.ShapedOpen Tryz.prog) {l : List (String × DataW Unit)} (hl : laidMet Tryz.prog l W) {n : String} {d : DataW Unit} (hm : (n, d) ∈ l) {g t : Nat} (hlt : g < 23)
    (hg : Tryz.prog.globalNamed n = some g) (ht : (Tryz.prog.globals[g]?).map (·.type) = some t)
    (ht2 : ((((begin Tryz.prog (fun _ _ => 0) default).world).heap[g]?).bind Obj.row?).map (·.2) = some t) {cells : List AV} (hf : flat Tryz.prog 4 t d = clos 24 cells) (hc : (clos 24 cells).isSome = true) :
    ∃ o, W.heap[g]? = some o ∧ BR Kn.ε g (.cells cells t none .other) o := by
  obtain ⟨vs, hvs⟩ := Option.isSome_iff_exists.1 hc
  have h1 := Kn.cells_of hl hm hg ht (hf.trans hvs)
  have h2 := Kn.shape_of hsh hg hlt ht2 h1
  refine ⟨_, h2, vs, [], (0, 0), clos_γ (fun k hk => by simp [Kn.ε, hk]) cells vs hvs, by simp, by simp, rfl⟩
theorem Kn.handle_of {W : World} (h : handlesMet Tryz.prog [("errors.errorType", YtlealmffhmhchaaGreatDoor.Rows.laid_errors_errorType)] W) : W.var? Tryz.prog "errors.errorType" = some #[.iface 126 (.agg #[.pointer (some ⟨23, 58, none⟩)])] := by
  obtain ⟨name, u, ty, e1, e2, e3, e4, e5⟩ := h _ (List.mem_singleton.2 rfl)
  have en : name = [101, 114, 114, 111, 114] := (Option.some.inj e1).symm
  subst en
  have hrt : (Tryz.prog.cutTypes.find? (·.1 == "internal/reflectlite.rtype")).map (·.2) = some 126 := by kernel_rfl
  obtain rfl := Option.some.inj (hrt.symm.trans e2)
  have hsz : Tryz.prog.types.size = 407 := by kernel_rfl
  have hone : ((List.range 407).filter fun t => Tryz.prog.rowNamed t [101, 114, 114, 111, 114]) = [58] := by kernel_rfl
  have hm : ty ∈ (List.range 407).filter fun t => Tryz.prog.rowNamed t [101, 114, 114, 111, 114] := List.mem_filter.2 ⟨List.mem_range.2 (by rw [← hsz]; exact e3), e4⟩
  rw [hone] at hm
  obtain rfl := List.mem_singleton.1 hm
  have hh : typeHandle Tryz.prog 58 = .pointer (some ⟨23, 58, none⟩) := by kernel_rfl
  rw [hh] at e5
  exact e5
theorem Kn.laidAll {W : World} (hL : laidMetH Tryz.prog YtlealmffhmhchaaGreatDoor.Rows.parseSameRow.laid W) :
    laidMet Tryz.prog (YtlealmffhmhchaaGreatDoor.Rows.parseSameRow.laid.filter fun x => x.2.handleName?.isNone) W ∧
    handlesMet Tryz.prog [("errors.errorType", YtlealmffhmhchaaGreatDoor.Rows.laid_errors_errorType)] W := hL
theorem Kn.gb {W : World} (hsh : W.ShapedOpen Tryz.prog) (hL : laidMetH Tryz.prog YtlealmffhmhchaaGreatDoor.Rows.parseSameRow.laid W) : Gb 24 5 W.heap.size Kn.M W := by
  obtain ⟨hl, hh⟩ := Kn.laidAll hL
  have hsz : Tryz.prog.globals.size = 23 := by kernel_rfl
  have h24 : 24 ≤ W.heap.size := by
    have h0 : 23 < ((begin Tryz.prog (fun _ _ => 0) default).world).heap.size := of_decide_eq_true (by kernel_rfl)
    obtain ⟨o, _, h1, _⟩ := hsh.2 23 (by omega) h0
    have := (Array.getElem?_eq_some_iff.1 h1).1
    omega
  have hm := Go.Proofs.cell_of_shapedOpen_int (P := Tryz.prog) (g := 5) (t := 3) (zero := #[.int .i64 0]) hsh (of_decide_eq_true (by kernel_rfl)) (by kernel_rfl) rfl (by kernel_rfl) (by kernel_rfl) Tryz.underlying3
  have l12 := Kn.live_of hsh hl (n := "internal/strconv.uint64pow10") (d := YtlealmffhmhchaaGreatDoor.Rows.laid_internal_strconv_uint64pow10) (g := 4) (t := 265) (cells := Kn.u64p) (List.mem_of_getElem? (i := 8) (by rfl)) (by omega) (by kernel_rfl) (by kernel_rfl) (by kernel_rfl) (by kernel_rfl) (by kernel_rfl)
  have l2 := Kn.live_of hsh hl (n := "internal/strconv.optimize") (d := YtlealmffhmhchaaGreatDoor.Rows.laid_internal_strconv_optimize) (g := 7) (t := 4) (cells := [.bool true]) (List.mem_of_getElem? (i := 4) (by rfl)) (by omega) (by kernel_rfl) (by kernel_rfl) (by kernel_rfl) (by kernel_rfl) (by kernel_rfl)
  have l19 := Kn.live_of hsh hl (n := "internal/strconv.float64info") (d := YtlealmffhmhchaaGreatDoor.Rows.laid_internal_strconv_float64info) (g := 19) (t := 365) (cells := [.int .u64 52, .int .u64 11, .int .i64 (-1023)]) (List.mem_of_getElem? (i := 3) (by rfl)) (by omega) (by kernel_rfl) (by kernel_rfl) (by kernel_rfl) (by kernel_rfl) (by kernel_rfl)
  have l14 := Kn.live_of hsh hl (n := "internal/strconv.pow10Tab") (d := YtlealmffhmhchaaGreatDoor.Rows.laid_internal_strconv_pow10Tab) (g := 16) (t := 351) (cells := Go.Pinned.pow10Rows.flatMap fun x => [.int .u64 x.1, .int .u64 x.2]) (List.mem_of_getElem? (i := 17) (by rfl)) (by omega) (by kernel_rfl) (by kernel_rfl) (by kernel_rfl) (by kernel_rfl) (by kernel_rfl)
  have l0 : ∃ o, W.heap[0]? = some o ∧ BR Kn.ε 0 (.cells [.iface 126 (.agg [.ptr 23 58])] 100 none .other) o := by
    have h2 := Kn.shape_of hsh (n := "errors.errorType") (g := 0) (t := 100) (by kernel_rfl) (by omega) (by kernel_rfl) (Kn.handle_of hh)
    exact ⟨_, h2, [.iface 126 (.agg #[.pointer (some ⟨23, 58, none⟩)])], [], (0, 0), by simp [γ, γs, Kn.ε], by simp, by simp, rfl⟩
  have hfree : ∀ k, Kn.M.nxt ≤ k → Kn.ε.δ k = none := fun k hk => by
    have h1 : 24 ≤ k := hk
    have h2 : ¬ k < 24 := by omega
    simp [Kn.ε, h2]
  have hov : ∀ p ∈ Kn.M.ov, p.1 < Kn.M.nxt := fun p hp => by cases hp
  have hglob : ∀ g, g < 24 → Kn.ε.δ g = some g := fun g hg => by simp [Kn.ε, hg]
  refine ⟨⟨Kn.ε, ⟨Below.refl _ _, Nat.le_refl _, h24, Nat.le_refl _, hglob, hfree, hov, ?_, ?_, ?_⟩, ?_⟩, (by omega), hm⟩
  · intro p hp
    simp only [Kn.M, Kn.G0, List.mem_cons, List.not_mem_nil, or_false] at hp
    rcases hp with rfl | rfl | rfl | rfl | rfl <;> simp [Kn.M]
  · intro i b hget
    have hmem : (i, some b) ∈ Kn.G0 := by
      simp only [St.get, Kn.M, Rx.look] at hget
      cases hlk : Rx.look Kn.G0 i with
      | none => rw [hlk] at hget; simp at hget
      | some x => rw [hlk] at hget; simp only at hget; subst hget; exact look_mem hlk
    have fin : ∀ (g : Nat) (blk : ABlk), g < 24 → blk.own = false → (∃ o, W.heap[g]? = some o ∧ BR Kn.ε g blk o) → ∃ bl o, Kn.ε.δ g = some bl ∧ W.heap[bl]? = some o ∧ BR Kn.ε g blk o ∧ (blk.own = true → W.heap.size ≤ bl) := fun g blk hg ho ⟨o, h1, h2⟩ =>
      ⟨g, o, by simp [Kn.ε, hg], h1, h2, fun h => by rw [ho] at h; cases h⟩
    simp only [Kn.G0, List.mem_cons, List.not_mem_nil, or_false, Prod.mk.injEq, Option.some.injEq] at hmem
    rcases hmem with ⟨rfl, rfl⟩ | ⟨rfl, rfl⟩ | ⟨rfl, rfl⟩ | ⟨rfl, rfl⟩ | ⟨rfl, rfl⟩
    · exact fin _ _ (by omega) rfl l12
    · exact fin _ _ (by omega) rfl l2
    · exact fin _ _ (by omega) rfl l19
    · exact fin _ _ (by omega) rfl l0
    · exact fin _ _ (by omega) rfl l14
  · intro i j bi bj b _ _ h1 h2
    simp only [Kn.ε] at h1 h2
    split at h1 <;> simp at h1
    split at h2 <;> simp at h2
    omega
  · intro i b hi
    simp only [Kn.ε] at hi
    split at hi <;> simp at hi
    omega
end Go.Proofs
