/- The executor at the program of ParseSame, ParsePaths, ParseBlanks. -/
import Derived.Test.YtlealmffhmhchaaGreatDoorEzA
import Derived.Test.YtlealmffhmhchaaGreatDoorProg
import Derived.KernelRfl
namespace Go.Proofs.Pa
open Go.Ex
noncomputable section
noncomputable def K : Cfg := ⟨Tryz.prog, 24, fun _ _ _ => none, []⟩
theorem mixed : Tryz.prog.follows .mixedOrders = true := by kernel_rfl
theorem ok : KOk K := ⟨fun _ _ _ _ _ _ _ _ _ _ _ h => by simp [K] at h, fun _ _ _ _ h => by simp [K] at h, mixed, fun p hp => by simp [K] at hp⟩
theorem gs : Tryz.prog.globals.size = 23 := by kernel_rfl
end
end Go.Proofs.Pa
