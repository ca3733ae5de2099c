/- known: what some of the functions that known() calls answer, each by one run of the executor. -/
import Derived.Test.YtlealmffhmhchaaGreatDoorKnBase
namespace Go.Proofs
open Go.RowKit Go.Rx
theorem Kn.run_show : (X (Kn.K Kn.F1) 100000 (.call 61 [.int .u64 4611686018427387904] Kn.M)).map (fun o => AVs.beq o.2.1 [.str [50]]) = some true := by kernel_rfl
theorem Kn.fok_show : FOk Tryz.prog 24 5 Kn.M (61, [.int .u64 4611686018427387904], .str [50]) := Kn.fact Kn.fok1 Kn.run_show (by kernel_rfl) (by kernel_rfl)
theorem Kn.run_num : (X (Kn.K Kn.F1) 100000 (.call 83 [.str [50]] Kn.M)).map (fun o => AVs.beq o.2.1 [.tup [.int .u64 4611686018427387904, .int .u16 0]]) = some true := by kernel_rfl
theorem Kn.fok_num : FOk Tryz.prog 24 5 Kn.M (83, [.str [50]], .tup [.int .u64 4611686018427387904, .int .u16 0]) := Kn.fact Kn.fok1 Kn.run_num (by kernel_rfl) (by kernel_rfl)
theorem Kn.run_agga : (X (Kn.K Kn.F1) 100000 (.call 195 [.str [97]] Kn.M)).map (fun o => AVs.beq o.2.1 [.int .u8 0]) = some true := by kernel_rfl
theorem Kn.fok_agga : FOk Tryz.prog 24 5 Kn.M (195, [.str [97]], .int .u8 0) := Kn.fact Kn.fok1 Kn.run_agga (by kernel_rfl) (by kernel_rfl)
theorem Kn.run_aggb : (X (Kn.K Kn.F1) 100000 (.call 195 [.str [98]] Kn.M)).map (fun o => AVs.beq o.2.1 [.int .u8 0]) = some true := by kernel_rfl
theorem Kn.fok_aggb : FOk Tryz.prog 24 5 Kn.M (195, [.str [98]], .int .u8 0) := Kn.fact Kn.fok1 Kn.run_aggb (by kernel_rfl) (by kernel_rfl)
noncomputable def Kn.F2 : Facts := (61, [.int .u64 4611686018427387904], .str [50]) :: (83, [.str [50]], .tup [.int .u64 4611686018427387904, .int .u16 0]) :: (195, [.str [97]], .int .u8 0) :: (195, [.str [98]], .int .u8 0) :: Kn.F1
theorem Kn.fok2 : ∀ p ∈ Kn.F2, FOk Tryz.prog 24 5 Kn.M p := Kn.fok_cons Kn.fok_show (Kn.fok_cons Kn.fok_num (Kn.fok_cons Kn.fok_agga (Kn.fok_cons Kn.fok_aggb Kn.fok1)))
end Go.Proofs
