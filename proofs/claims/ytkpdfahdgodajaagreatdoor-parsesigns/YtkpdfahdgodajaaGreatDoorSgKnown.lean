/- ParseSigns: what some of the functions that known() calls answer, each by one run of the executor. -/
import Derived.Test.YtkpdfahdgodajaaGreatDoorSgFactsB
namespace Go.Proofs
open Go.RowKit Go.Rx
theorem Sg.run_known : (X (Sg.K Sg.F3) 100000 (.call 6 [] Sg.M)).map (fun o => AVs.beq o.2.1 [.bool true]) = some true := by kernel_rfl
theorem Sg.fok_known : FOk Tryz.prog 24 3 Sg.M (6, [], .bool true) := Sg.fact Sg.fok3 Sg.run_known (by kernel_rfl) (by kernel_rfl)
end Go.Proofs
