/- known: the deferred closure of the parser, where nobody panics, comes to nothing. -/
import Derived.Test.YtlealmffhmhchaaGreatDoorRxC
import Derived.Test.YtlealmffhmhchaaGreatDoorProg
import Derived.RecoverIn
namespace Go.Proofs
open Go.RowKit Go.Rx
theorem Tryz.idle39 (args : Array Value) (w : World) (hs : args.size = 2) :
    CallsDIn Fence.wide 0 Tryz.prog 39 args .returning w fun e u w' => (∃ v, e = .returned v) ∧ u = .returning ∧ w' = w := by
  obtain ⟨l⟩ := args
  obtain ⟨x, y, rfl⟩ : ∃ x y, l = [x, y] := by
    match l, hs with
    | [x, y], _ => exact ⟨x, y, rfl⟩
  have hta : ∀ w : World, (Instr.typeAssert Value.nilIface 20 76 true).run Tryz.prog w = .ok (.tuple #[.pointer none, .bool false]) w := fun w => by kernel_rfl
  refine callsDIn_of_wpSIn Tryz.func39 rfl trivial fun c₀ cs hu => ?_
  apply wpSIn_seq
  apply wpSIn_region
  simp [wpOpsSIn, go_sem, recoverD, hu, Tryz.ntmps39, Exit.thenS, hta]
  apply wpSIn_seq
  apply wpSIn_region
  simp [wpOpsSIn, go_sem, Exit.thenS]
  refine wpSIn_cond (t := false) (by simp [Act.eval, Array.replicate]) ?_
  simp only [Bool.false_eq_true, if_false]
  refine wpSIn_of_wpIn rfl (wpIn_skip ?_)
  cases c₀
  simp_all [bodyPostS, results, Tryz.results39]
end Go.Proofs
