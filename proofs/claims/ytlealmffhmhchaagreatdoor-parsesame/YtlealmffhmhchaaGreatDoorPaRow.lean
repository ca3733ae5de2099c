/- ParseSame: the row. -/
import Derived.Test.YtlealmffhmhchaaGreatDoorPa5
import Derived.Test.YtlealmffhmhchaaGreatDoorPaN
import Derived.Test.YtlealmffhmhchaaGreatDoorKnLaid
import Derived.Test.YtlealmffhmhchaaGreatDoorKnPure
import Derived.Test.YtlealmffhmhchaaGreatDoorRxC
import Derived.WalkKit
import Derived.ProofKit
import Derived.OpenShut
import Derived.Lay
import Derived.LaidHandle
import Derived.Stop.Joined
import Derived.Carry
namespace Go.Proofs.YtlealmffhmhchaaGreatDoor.parseSame
open Go.ChangeShapes Go.WideShapes Go.ChangeAt Go.RowKit
theorem own : ownKnob Tryz.prog.godebug = none := by kernel_rfl
theorem laidOut : laidOutB Tryz.prog = true := by kernel_rfl
abbrev laid := Rows.parseSameRow.laid
abbrev plain := laid.filter fun x => x.2.handleName?.isNone
/-- A world in which the handle's cell is laid. -/
noncomputable def handleWorld (os : Os) : World :=
  let w0 := World.holding Tryz.prog os ⟨#[], #[], []⟩
  { w0 with heap := w0.heap.modify 0 fun
      | .cells _ t frozen => .cells #[.iface 126 (.agg #[.pointer (some ⟨23, 58, none⟩)])] t frozen
      | o => o }
/-- A world that meets the condition. -/
noncomputable def laidWorld (os : Os) : World := (handleWorld os).layVars Tryz.prog plain
theorem laidWorld_plain (os : Os) : laidMet Tryz.prog plain (laidWorld os) := by
  have e1 : (plain.filter fun x => (plain.map (·.1)).contains x.1) = plain := List.filter_eq_self.2 fun x hx => List.contains_iff_mem.2 (List.mem_map.2 ⟨x, hx, rfl⟩)
  have e2 : (plain.filter fun x => !(plain.map (·.1)).contains x.1) = [] := List.filter_eq_nil_iff.2 fun x hx => by rw [List.contains_iff_mem.2 (List.mem_map.2 ⟨x, hx, rfl⟩)]; simp
  exact laidMet_layVars (w0 := handleWorld os) (plain.map (·.1)) [] (by rw [e1]; rfl) (by rw [e1]; kernel_rfl) (by rw [e1]; kernel_rfl) (by rw [e2]; exact LaidIn.none)
theorem laidWorld_met (os : Os) (args : Array Value) : laidMetH Tryz.prog laid ((laidWorld os).forCall (fun _ _ => 0) ⟨#[], args, []⟩).memory :=
  laidMetH_of_parts3 (fuel := 8) ((laidWorld_plain os).of_heap (by simp [World.memory, World.forCall, Input.heap])) (by kernel_rfl) (by kernel_rfl)
/-- A node of nothing. -/
def zeroNode : Value := .agg #[.int .u8 0, .int .u64 0, .string ⟨#[]⟩, .slice none 0 0, .int .i64 0, .int .i64 0, .int .i64 0, .int .u8 0, .int .i64 0, .int .u8 0, .bool false, .int .u8 0, .bool false, .slice none 0 0, .slice none 0 0, .int .u8 0, .slice none 0 0, .slice none 0 0]
theorem okWide_struct {P : Program} {W : World} {base : Nat} {t : TypeId} {fs : Array Field} {v : Value} (ht : P.underlying t = some (.struct fs)) (h : Value.okWide P W .any base t v) : ∃ cs, v = .agg cs := by
  unfold Value.okWide at h
  rw [ht] at h
  obtain ⟨cs, h, _⟩ := h
  exact ⟨cs, h⟩
set_option maxRecDepth 100000 in
/-- What a node argument is. -/
theorem node_arg {H : Type} {enc : TypeId × Value → H} {W : World} {base : Nat} {v : Value} {d : DataW H} {p : List MemPlace} (hok : Value.okWide Tryz.prog W .any base 45 v) (h : DataW.Trod enc Tryz.prog W 0 (fun _ => true) true 45 v d p) :
    ∃ t : Pa.Tree, t.fits ∧ Ex.γ (Pa.Rd W) t.v v := by
  obtain ⟨cs, rfl⟩ := okWide_struct Tryz.underlying45 hok
  obtain ⟨fuel, hf⟩ := h
  obtain ⟨t, h1, h2⟩ := Pa.rd_node fuel _ _ hf
  refine ⟨t, h2, ?_⟩
  rw [Pa.enc_eq] at h1
  show Ex.γ _ (.agg _) _
  simp only [Ex.γ]
  exact ⟨_, h1, by simp [Value.cells]⟩
theorem call_same {W : World} {v0 v1 : Value} {t u : Pa.Tree} (hg : Rx.Gb 24 5 W.heap.size Kn.M W) (ht : t.fits) (hu : u.fits) (h0 : Ex.γ (Pa.Rd W) t.v v0) (h1 : Ex.γ (Pa.Rd W) u.v v1) :
    Calls Tryz.prog 5 #[v0, v1] W fun e w' => e = .returned (.bool true) ∧ Below W.heap.size W w' := by
  have h24 : 24 ≤ W.heap.size := by obtain ⟨⟨ε, hr, _⟩, _⟩ := hg; exact hr.gB
  have hst : Ex.Stand 24 W.heap.size W (Pa.Rd W) W := ⟨Below.refl _ _, Nat.le_refl _, h24, fun g hg => by simp [Pa.Rd, hg], fun b o hb => hb, rfl, fun _ _ => rfl⟩
  have hl := Pa.same t u ht hu h24 (fun w hb hs => Kn.pure (hg.later Kn.still1 Kn.still2 hb hs)) (Pa.Rd W) W [v0, v1] hst (Pa.gcons h0 (Pa.gcons h1 Pa.gnil))
  refine Calls.mono hl fun e w' he => ?_
  obtain ⟨y, ε', rfl, _, hy, hb, _⟩ := he
  simp only [Ex.γ] at hy
  subst hy
  exact ⟨rfl, hb⟩
set_option maxRecDepth 100000 in
theorem lifted (os : Os) (started : os.Started) (H : Type) (enc : TypeId × Value → H) :
    ReturnsInHanded {} Tryz.checked os 5 .any (fun w args => (Rows.parseSameSpec.pre enc Tryz.prog Tryz.f5 [] false w args ∧ laidMetH Tryz.prog laid w) ∧ sizedMet enc Tryz.prog Tryz.f5 (OpenSpec.ofChange Rows.parseSameSpec) false w args)
      (Rows.parseSameSpec.post enc Tryz.prog Tryz.f5 false true false false) := by
  refine handed_and_shaped (C := Tryz.checked) (X := fun w _ => laidMetH Tryz.prog laid w) (fun _ _ _ hh h => laidMetH.of_heap hh h) own started (by kernel_rfl) Tryz.func5
    (ChangeSpec.witness_shaped (enc := enc) (C := Tryz.checked) (os := os) (X := fun w _ => laidMetH Tryz.prog laid w) false (laidWorld os) #[zeroNode, zeroNode] 8 (World.layVars_os _ _ _)
      (World.shaped_of_ZipB (by kernel_rfl) (by kernel_rfl)) (by kernel_rfl) (by kernel_rfl) (by kernel_rfl) (laidWorld_met os _)) ?_
  intro W base args ds gs before hval0 hW _ _ hL hsh _
  have hval : ∀ (j : Nat) t v, Tryz.f5.params[j]? = some t → args[j]? = some v → Value.okWide Tryz.prog W .any base t v := hval0
  have hW' := hW
  obtain ⟨p, q, hA0, hV, rfl, hfz, hnd⟩ := hW
  have hA : DataW.TrodAll enc Tryz.prog W 0 (fun _ => true) true Tryz.f5.params.toList args.toList ds p := hA0
  rw [Tryz.params5] at hA hval
  obtain ⟨v0, v1, d0, d1, p0, p1, rfl, rfl, rfl, h0, h1⟩ := trodAll_two hA
  obtain ⟨rfl, rfl⟩ := trodVars_none hV
  obtain ⟨t, ht, g0⟩ := node_arg (hval 0 45 v0 rfl rfl) h0
  obtain ⟨u, hu, g1⟩ := node_arg (hval 1 45 v1 rfl rfl) h1
  simp only [List.append_nil] at hW'
  have hlt : ∀ x ∈ p0 ++ p1, x.block < W.heap.size := fun x hx => by simpa using hW'.lt x hx
  refine (call_same (Kn.gb hsh hL) ht hu g0 g1).mono fun e W' ⟨he, hb⟩ => ?_
  subst he
  exact ⟨_, rfl, _, _, _, [], _, [], hW', trodAll_mk1 (shut_bool Tryz.underlying4 _),
    trodAll_mk2 (Below.trod laidOut (by kernel_rfl) (of_decide_eq_true (by kernel_rfl)) h0 hb (fun x hx => hlt x (List.mem_append.2 (.inl hx)))) (Below.trod laidOut (by kernel_rfl) (of_decide_eq_true (by kernel_rfl)) h1 hb (fun x hx => hlt x (List.mem_append.2 (.inr hx)))), rfl, hb.frame _, fun h => by cases h⟩
end Go.Proofs.YtlealmffhmhchaaGreatDoor.parseSame
