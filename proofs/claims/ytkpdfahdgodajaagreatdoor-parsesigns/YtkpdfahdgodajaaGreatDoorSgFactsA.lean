/- ParseSigns: what some of the functions that known() calls answer, each by one run of the executor. -/
import Derived.Test.YtkpdfahdgodajaaGreatDoorSgBase
namespace Go.Proofs
open Go.RowKit Go.Rx
theorem Sg.run_show : (X (Sg.K Sg.F1) 100000 (.call 30 [.int .u64 4611686018427387904] Sg.M)).map (fun o => AVs.beq o.2.1 [.str [50]]) = some true := by kernel_rfl
theorem Sg.fok_show : FOk Tryz.prog 24 3 Sg.M (30, [.int .u64 4611686018427387904], .str [50]) := Sg.fact Sg.fok1 Sg.run_show (by kernel_rfl) (by kernel_rfl)
theorem Sg.run_num : (X (Sg.K Sg.F1) 100000 (.call 114 [.str [50]] Sg.M)).map (fun o => AVs.beq o.2.1 [.tup [.int .u64 4611686018427387904, .int .u16 0]]) = some true := by kernel_rfl
theorem Sg.fok_num : FOk Tryz.prog 24 3 Sg.M (114, [.str [50]], .tup [.int .u64 4611686018427387904, .int .u16 0]) := Sg.fact Sg.fok1 Sg.run_num (by kernel_rfl) (by kernel_rfl)
theorem Sg.run_agga : (X (Sg.K Sg.F1) 100000 (.call 166 [.str [97]] Sg.M)).map (fun o => AVs.beq o.2.1 [.int .u8 0]) = some true := by kernel_rfl
theorem Sg.fok_agga : FOk Tryz.prog 24 3 Sg.M (166, [.str [97]], .int .u8 0) := Sg.fact Sg.fok1 Sg.run_agga (by kernel_rfl) (by kernel_rfl)
theorem Sg.run_aggb : (X (Sg.K Sg.F1) 100000 (.call 166 [.str [98]] Sg.M)).map (fun o => AVs.beq o.2.1 [.int .u8 0]) = some true := by kernel_rfl
theorem Sg.fok_aggb : FOk Tryz.prog 24 3 Sg.M (166, [.str [98]], .int .u8 0) := Sg.fact Sg.fok1 Sg.run_aggb (by kernel_rfl) (by kernel_rfl)
noncomputable def Sg.F2 : Facts := (30, [.int .u64 4611686018427387904], .str [50]) :: (114, [.str [50]], .tup [.int .u64 4611686018427387904, .int .u16 0]) :: (166, [.str [97]], .int .u8 0) :: (166, [.str [98]], .int .u8 0) :: Sg.F1
theorem Sg.fok2 : ∀ p ∈ Sg.F2, FOk Tryz.prog 24 3 Sg.M p := Sg.fok_cons Sg.fok_show (Sg.fok_cons Sg.fok_num (Sg.fok_cons Sg.fok_agga (Sg.fok_cons Sg.fok_aggb Sg.fok1)))
end Go.Proofs
