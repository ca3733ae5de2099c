/- ParseSame: the tied card: its closed facts one by one, then the card. -/
import Derived.Test.YtlealmffhmhchaaGreatDoorPaRow
import Derived.Test.YtlealmffhmhchaaGreatDoorPaTie
import Derived.Test.YtlealmffhmhchaaGreatDoorCards
import Derived.SevenBeyond
namespace Go.Proofs.YtlealmffhmhchaaGreatDoor.parseSame
open Go.ChangeShapes Go.WideShapes Go.ChangeAt Go.RowKit
set_option maxRecDepth 100000
theorem and_mk {a b : Bool} (h : a = true) (h' : b = true) : (a && b) = true := by rw [h, h']; rfl
noncomputable def row0 : OpenClaim := { Rows.parseSameRow with laid := [] }
theorem k0 : (row0.wf (OpenSpec.ofChange Rows.parseSameSpec)) = true := by kernel_rfl
theorem k1 : (laidOutB Tryz.pinned.checked.prog) = true := by kernel_rfl
theorem k2 : (mapsRowed Tryz.pinned.checked.prog) = true := by kernel_rfl
theorem k3 : (Tryz.f5.params.all (Tryz.pinned.checked.prog.readableRec ·)) = true := by kernel_rfl
theorem k4 : (namedTie Tryz.pinned.checked.prog row0.named Rows.parseSameSpec.vars) = true := by kernel_rfl
theorem k5 : ((row0.stops == [])) = true := by kernel_rfl
theorem k6 : ((Tryz.pinned.checked.prog.stops == [])) = true := by kernel_rfl
theorem k7 : ((row0.knobs == [])) = true := by kernel_rfl
theorem k8 : ((Tryz.pinned.checked.prog.stopKnobs == [])) = true := by kernel_rfl
theorem k9 : ((row0.inPlace == Tryz.pinned.checked.prog.inPlace 5)) = true := by kernel_rfl
theorem k10 : ((row0.unfollowed == Tryz.pinned.checked.prog.unfollowed 5)) = true := by kernel_rfl
theorem k11 : ((row0.recurses == Tryz.pinned.checked.prog.recurses 5)) = true := by kernel_rfl
theorem k12 : ((row0.named == Tryz.pinned.checked.prog.varsNamed 5)) = true := by kernel_rfl
theorem k13 : ((row0.maps == (Tryz.f5.params.toList ++ Rows.parseSameSpec.plain.varTypes Tryz.pinned.checked.prog).any (Tryz.pinned.checked.prog.mapsRec ·))) = true := by kernel_rfl
theorem k14 : ((row0.ifaces == (Tryz.f5.params.toList ++ Rows.parseSameSpec.plain.varTypes Tryz.pinned.checked.prog).any (Tryz.pinned.checked.prog.ifacesRec ·))) = true := by kernel_rfl
theorem k15 : ((row0.mapsOut == Tryz.pinned.checked.prog.mapsAmong Tryz.f5.resultTypes.toList)) = true := by kernel_rfl
theorem k16 : ((row0.loops == (Tryz.f5.params.toList ++ Rows.parseSameSpec.plain.varTypes Tryz.pinned.checked.prog).any (Tryz.pinned.checked.prog.loopsFrom ·))) = true := by kernel_rfl
theorem k17 : ((row0.wideKeys == (Tryz.f5.params.toList ++ Rows.parseSameSpec.plain.varTypes Tryz.pinned.checked.prog ++ Tryz.f5.resultTypes.toList).any (Tryz.pinned.checked.prog.wideKeysFrom ·))) = true := by kernel_rfl
theorem k18 : (Rows.parseSameSpec.vars.all (Tryz.pinned.checked.prog.varReadable ·)) = true := by kernel_rfl
theorem k19 : (Tryz.f5.resultTypes.all (fun t => Tryz.pinned.checked.prog.readableRec t && decide (t < Tryz.pinned.checked.prog.types.size))) = true := by kernel_rfl
theorem k20 : ((row0.ifacesOut == Tryz.f5.resultTypes.toList.any (Tryz.pinned.checked.prog.ifacesRec ·))) = true := by kernel_rfl
theorem k21 : ((row0.loopsOut == Tryz.f5.resultTypes.toList.any (Tryz.pinned.checked.prog.loopsFrom ·))) = true := by kernel_rfl
theorem k22 : ((row0.plainKeys == Tryz.pinned.checked.prog.plainKeys)) = true := by kernel_rfl
theorem k23 : (row0.shortTexts.isNone) = true := by kernel_rfl
theorem k24 : (Tryz.pinned.checked.prog.stopsHeard) = true := by kernel_rfl
theorem k25 : (Tryz.pinned.checked.prog.mayEnter) = true := by kernel_rfl
theorem k26 : ((row0.lifted == Tryz.pinned.checked.prog.liftsFinal)) = true := by kernel_rfl
theorem k27 : ((Tryz.pinned.checked.prog.make == some row0.make)) = true := by kernel_rfl
theorem k28 : ((row0.kinds == (if row0.domain.isEmpty then [] else Tryz.f5.params.toList.map fun t => match Tryz.pinned.checked.prog.underlying t with | some (.int k) => some k | _ => Option.none))) = true := by kernel_rfl
theorem k29 : ((row0.pinned == row0.pinnedBy)) = true := by kernel_rfl
theorem k30 : ((row0.veiled == (Tryz.f5.params.toList ++ Rows.parseSameSpec.plain.varTypes Tryz.pinned.checked.prog ++ Tryz.f5.resultTypes.toList).any (Tryz.pinned.checked.prog.veiledRec ·))) = true := by kernel_rfl
theorem k31 : (row0.veiledFits Tryz.pinned.checked.prog Tryz.f5.params.toList (Tryz.f5.params.toList ++ Rows.parseSameSpec.plain.varTypes Tryz.pinned.checked.prog ++ Tryz.f5.resultTypes.toList)) = true := by kernel_rfl
theorem closed : joinedFacts Tryz.pinned.checked.prog 5 Tryz.f5 Rows.parseSameSpec row0 = true := (and_mk (and_mk (and_mk (and_mk (and_mk (and_mk (and_mk (and_mk (and_mk (and_mk (and_mk (and_mk (and_mk (and_mk (and_mk (and_mk (and_mk (and_mk (and_mk (and_mk (and_mk (and_mk (and_mk (and_mk (and_mk (and_mk (and_mk (and_mk (and_mk (and_mk (and_mk k0 k1) k2) k3) k4) k5) k6) k7) k8) k9) k10) k11) k12) k13) k14) k15) k16) k17) k18) k19) k20) k21) k22) k23) k24) k25) k26) k27) k28) k29) k30) k31)
theorem veiled : Rows.parseSameRow.veiledFits Tryz.pinned.checked.prog Tryz.f5.params.toList (Tryz.f5.params.toList ++ Rows.parseSameSpec.plain.varTypes Tryz.pinned.checked.prog ++ Tryz.f5.resultTypes.toList) = true := by kernel_rfl
theorem named5 : Tryz.pinned.checked.prog.funcNamed Rows.parseSameRow.func = some 5 := by kernel_rfl
theorem inst : Tryz.f5.isInstance Tryz.pinned.checked.prog Rows.parseSameRow.origin Rows.parseSameRow.targs := of_decide_eq_true (by kernel_rfl)
theorem wrap : Tryz.f5.isWrapper Tryz.pinned.checked.prog Rows.parseSameRow.wrapper Rows.parseSameRow.mainSum := by
  unfold Func.isWrapper; first | (rw [if_pos (by decide +kernel)]; kernel_rfl) | (rw [if_neg (by decide +kernel)]; exact ⟨rfl, rfl⟩)
theorem rest : Rows.parseSameRow.rest Tryz.pinned (OpenSpec.ofChange Rows.parseSameSpec) :=
  OpenClaim.rest_of_wide 5 Tryz.f5 rfl rfl rfl rfl rfl rfl rfl ⟨rfl, rfl, rfl, rfl, rfl⟩ rfl rfl rfl rfl rfl named5 Tryz.func5 closed inst wrap
    (fun os started H enc _ => lifted os started H enc) veiled
theorem byText : Rows.parseSameRow.wfByText (OpenSpec.ofChange Rows.parseSameSpec) = true := by kernel_rfl
theorem mainIs : Tryz.pinned.checked.prog.mainIs = some (true, "3b93d76203b68ec74623fbc6ed411b404e254d0a812a090ca89eda39097e1edc".toList) := by kernel_rfl
theorem looks : true = Tryz.pinned.checked.prog.looks [] := by kernel_rfl
theorem standIn : ([45].all fun u => !Tryz.prog.wantsStandIn u) = true := by kernel_rfl
theorem goes : false = Rows.parseSameRow.goesBy Tryz.pinned.checked.prog := by kernel_rfl
/-- THE STATEMENT. -/
theorem proved : Go.Proofs.YtlealmffhmhchaaGreatDoor.Rows.ParseSameCardSaid :=
  Claim7.holds_tied_beyond .later [.data, .data, .widerDeep, .widerDeep, .data, .data, .data, .data, .data, .data, .handle, .sentinel, .sentinel, .data, .data, .sentinel, .sentinel, .pinned, .pinned, .pinned, .pinned] true (true, "3b93d76203b68ec74623fbc6ed411b404e254d0a812a090ca89eda39097e1edc") true
    rest byText row_tie rfl ⟨rfl, rfl⟩ mainIs
    (fun f fn hf hfn => by
      obtain rfl : f = 5 := Option.some.inj (named5.symm.trans hf) |>.symm
      obtain rfl : fn = Tryz.f5 := (Option.some.inj (Tryz.func5.symm.trans hfn)).symm
      exact ⟨looks, fun j t ht => by
        rw [Tryz.params5] at ht
        have hm : t ∈ [45] := by simpa using Array.mem_of_getElem? ht
        exact (show Tryz.prog.wantsStandIn t = false by simpa using List.all_eq_true.1 standIn t hm)⟩)
    goes
end Go.Proofs.YtlealmffhmhchaaGreatDoor.parseSame
namespace Go.Proofs.YtlealmffhmhchaaGreatDoor
/-- THE STATEMENT, under the claim's name. -/
theorem parseSame_holds : Rows.ParseSameCardSaid := parseSame.proved
#print axioms parseSame_holds
end Go.Proofs.YtlealmffhmhchaaGreatDoor
