/- known: what some of the functions that known() calls answer, each by one run of the executor. -/
import Derived.Test.YtlealmffhmhchaaGreatDoorKnFactsB
namespace Go.Proofs
open Go.RowKit Go.Rx
theorem Kn.run_known : (X (Kn.K Kn.F3) 100000 (.call 7 [] Kn.M)).map (fun o => AVs.beq o.2.1 [.bool true]) = some true := by kernel_rfl
theorem Kn.fok_known : FOk Tryz.prog 24 5 Kn.M (7, [], .bool true) := Kn.fact Kn.fok3 Kn.run_known (by kernel_rfl) (by kernel_rfl)
end Go.Proofs
