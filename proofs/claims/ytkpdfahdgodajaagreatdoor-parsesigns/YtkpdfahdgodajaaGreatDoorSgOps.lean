/- ParseSigns: at each of the 256 operators the law answers true, known() taken as a fact. -/
import Derived.Test.YtkpdfahdgodajaaGreatDoorSgKnown
namespace Go.Proofs
open Go.RowKit Go.Rx
noncomputable def Sg.F4 : Facts := (6, [], .bool true) :: Sg.F1
theorem Sg.fok4 : ∀ p ∈ Sg.F4, FOk Tryz.prog 24 3 Sg.M p := Sg.fok_cons Sg.fok_known Sg.fok1
noncomputable def Sg.opOk (n : Nat) : Bool := match X (Sg.K Sg.F4) 1000 (.call 3 [.int .u8 (Int.ofNat n)] Sg.M) with
  | some o => AVs.beq o.2.1 [.bool true]
  | none => false
theorem Sg.ops0 : (List.range' 0 32).all Sg.opOk = true := by kernel_rfl
theorem Sg.ops1 : (List.range' 32 32).all Sg.opOk = true := by kernel_rfl
theorem Sg.ops2 : (List.range' 64 32).all Sg.opOk = true := by kernel_rfl
theorem Sg.ops3 : (List.range' 96 32).all Sg.opOk = true := by kernel_rfl
theorem Sg.ops4 : (List.range' 128 32).all Sg.opOk = true := by kernel_rfl
theorem Sg.ops5 : (List.range' 160 32).all Sg.opOk = true := by kernel_rfl
theorem Sg.ops6 : (List.range' 192 32).all Sg.opOk = true := by kernel_rfl
theorem Sg.ops7 : (List.range' 224 32).all Sg.opOk = true := by kernel_rfl
theorem Sg.op_ok (n : Nat) (h : n < 256) : Sg.opOk n = true := by
  have key : ∀ k, (List.range' k 32).all Sg.opOk = true → k ≤ n → n < k + 32 → Sg.opOk n = true := fun k hk h1 h2 => by
    rw [List.all_eq_true] at hk
    exact hk n (by rw [List.mem_range'_1]; exact ⟨h1, h2⟩)
  rcases Nat.lt_or_ge n 32 with h0 | h0
  · exact key 0 Sg.ops0 (Nat.zero_le _) (by omega)
  rcases Nat.lt_or_ge n 64 with h1 | h1
  · exact key 32 Sg.ops1 h0 (by omega)
  rcases Nat.lt_or_ge n 96 with h2 | h2
  · exact key 64 Sg.ops2 h1 (by omega)
  rcases Nat.lt_or_ge n 128 with h3 | h3
  · exact key 96 Sg.ops3 h2 (by omega)
  rcases Nat.lt_or_ge n 160 with h4 | h4
  · exact key 128 Sg.ops4 h3 (by omega)
  rcases Nat.lt_or_ge n 192 with h5 | h5
  · exact key 160 Sg.ops5 h4 (by omega)
  rcases Nat.lt_or_ge n 224 with h6 | h6
  · exact key 192 Sg.ops6 h5 (by omega)
  exact key 224 Sg.ops7 h6 (by omega)
/-- **THE LAW, at every operator, wherever the package-level variables are laid.** -/
theorem Sg.law (a0 : Int) (hw : (Lit.int .u8 a0).wf = true) (w : World) (h : Gb 24 3 w.heap.size Sg.M w) :
    Calls Tryz.prog 3 #[.int .u8 a0] w fun e w' => e = .returned (.bool true) ∧ Below w.heap.size w w' := by
  have hr : 0 ≤ a0 ∧ a0 < 256 := by
    have := hw
    simp [Lit.wf] at this
    have e1 : IntKind.u8.min = 0 := rfl
    have e2 : IntKind.u8.max = 255 := rfl
    omega
  obtain ⟨n, rfl⟩ := Int.eq_ofNat_of_zero_le hr.1
  have hn : n < 256 := by omega
  have hop := Sg.op_ok n hn
  unfold Sg.opOk at hop
  have hgb := h
  obtain ⟨⟨ε, hrel, _⟩, _⟩ := hgb
  split at hop
  · rename_i o ho
    obtain ⟨e, vs, R⟩ := o
    have hv := AVs.beq_eq _ _ hop
    simp only at hv
    subst hv
    have hx : γs ε [.int .u8 (Int.ofNat n)] = some [.int .u8 (Int.ofNat n)] := rfl
    refine Calls.mono (run_calls (Sg.kok Sg.fok4 _ _ h) ho hrel hx) fun e' w' he => ?_
    obtain ⟨y, ε', h3, _, h5, h6, _⟩ := he
    simp only [γ, Option.some.injEq] at h5
    subst h5
    exact ⟨h3, h6.below⟩
  · cases hop
end Go.Proofs
