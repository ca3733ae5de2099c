/- known() as a contract of the executor with an oracle. -/
import Derived.Test.YtlealmffhmhchaaGreatDoorKnKnown
import Derived.Test.YtlealmffhmhchaaGreatDoorEzA
namespace Go.Proofs
open Go.RowKit
theorem Kn.pure {w : World} (h : Rx.Gb 24 5 w.heap.size Kn.M w) : Ex.PureOk Tryz.prog 24 w.heap.size w 7 [] (.bool true) := by
  intro ε w1 xs hst hx
  have hx' := Ex.γs_nil.1 hx
  subst hx'
  have hg := h.later Kn.still1 Kn.still2 hst.below hst.hB
  have hg' := hg
  obtain ⟨⟨ε0, hr, _⟩, _⟩ := hg'
  refine Calls.mono (Kn.fok_known _ _ hg ε0 Kn.M w1 [] hr rfl) fun e w' he => ?_
  obtain ⟨y, ε', h1, _, h3, h4, _⟩ := he
  simp [Rx.γ] at h3
  subst h3
  refine ⟨.bool true, ε, h1, ⟨rfl, rfl, fun _ _ h => h, fun b o hb hn => ?_, rfl, rfl⟩, by simp [Ex.γ], h4.below, fun b o hb => ?_⟩
  · rw [hn] at hb; cases hb
  · have := hst.mem b o hb
    have hlt := (Array.getElem?_eq_some_iff.1 this).1
    rw [h4.below.block b hlt]
    exact this
end Go.Proofs
