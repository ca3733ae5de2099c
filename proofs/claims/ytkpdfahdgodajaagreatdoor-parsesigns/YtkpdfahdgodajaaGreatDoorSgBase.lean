/- ParseSigns: the executor's table at this program; strings.Contains at the four strings at which the lexer asks it. -/
import Derived.Test.YtkpdfahdgodajaaGreatDoorRx22
import Derived.Test.YtkpdfahdgodajaaGreatDoorRx23
import Derived.Test.YtkpdfahdgodajaaGreatDoorSgIdle
import Derived.Test.YtkpdfahdgodajaaGreatDoorSgShelf
import GoSem.PinnedTables
namespace Go.Proofs
open Go.RowKit Go.Rx

noncomputable def Sg.u64s (l : List Nat) : List AV := l.map fun (n : Nat) => .int .u64 (n : Int)
noncomputable def Sg.u64p : List AV := Sg.u64s [1, 10, 100, 1000, 10000, 100000, 1000000, 10000000, 100000000, 1000000000, 10000000000, 100000000000, 1000000000000, 10000000000000, 100000000000000, 1000000000000000, 10000000000000000, 100000000000000000, 1000000000000000000, 10000000000000000000]
noncomputable def Sg.G0 : Bl := [(12, some (.cells Sg.u64p 309 none .other)), (2, some (.cells [.bool true] 4 none .other)), (19, some (.cells [.int .u64 52, .int .u64 11, .int .i64 (-1023)] 358 none .other)),
  (0, some (.cells [.iface 119 (.agg [.ptr 23 53])] 92 none .other)), (14, some (.cells (Go.Pinned.pow10Rows.flatMap fun x => [.int .u64 x.1, .int .u64 x.2]) 334 none .other))]
noncomputable def Sg.M : St := { ov := [], base := Sg.G0, nxt := 24 }
noncomputable def Sg.no : ExtNo := ⟨23, 24, 25, 48, 49, 47, 91⟩
noncomputable def Sg.K (F : Facts) : Cfg := ⟨Tryz.prog, 24, xExt Tryz.prog 24 Sg.no, F, [(19, 2)]⟩
theorem Sg.still1 : stillB Sg.M.ov = true := rfl
theorem Sg.still2 : stillB Sg.M.base = true := by kernel_rfl
theorem Sg.extIs : ExtIs Tryz.prog 24 Sg.no where
  gs := by have : Tryz.prog.globals.size = 23 := by kernel_rfl
           omega
  same := run_callFunc_extern Tryz.func91 (by kernel_rfl) (by kernel_rfl) (by kernel_rfl) (by kernel_rfl)
  typeOf := run_callFunc_extern Tryz.func47 (by kernel_rfl) (by kernel_rfl) (by kernel_rfl) (by kernel_rfl)
  valueOf := run_callFunc_extern Tryz.func23 (by kernel_rfl) (by kernel_rfl) (by kernel_rfl) (by kernel_rfl)
  typ := run_callFunc_extern Tryz.func24 (by kernel_rfl) (by kernel_rfl) (by kernel_rfl) (by kernel_rfl)
  isNil := run_callFunc_extern Tryz.func25 (by kernel_rfl) (by kernel_rfl) (by kernel_rfl) (by kernel_rfl)
  elem := run_callFunc_extern Tryz.func48 (by kernel_rfl) (by kernel_rfl) (by kernel_rfl) (by kernel_rfl)
  set := run_callFunc_extern Tryz.func49 (by kernel_rfl) (by kernel_rfl) (by kernel_rfl) (by kernel_rfl)
theorem Sg.mixed : Tryz.prog.follows .mixedOrders = true := by kernel_rfl
theorem Sg.ok19 : funcOk Tryz.prog 19 = true := by kernel_rfl
theorem Sg.idle : ∀ p ∈ [((19 : FuncId), 2)], ∀ (args : Array Value) (w : World), args.size = p.2 → funcOk Tryz.prog p.1 = true ∧ CallsDIn Fence.wide 0 Tryz.prog p.1 args .returning w fun e u w' => (∃ v, e = .returned v) ∧ u = .returning ∧ w' = w := by
  intro p hp args w hs
  rw [List.mem_singleton] at hp
  subst hp
  exact ⟨Sg.ok19, Tryz.idle19 args w hs⟩
theorem Sg.extS : EOk Tryz.prog 24 (xExt Tryz.prog 24 Sg.no) := ext_sound Sg.extIs
theorem Sg.kok {F : Facts} (hF : ∀ p ∈ F, FOk Tryz.prog 24 3 Sg.M p) (B : Nat) (w0 : World) (h : Gb 24 3 B Sg.M w0) : KOk (Sg.K F) B w0 :=
  kok_mk Sg.extS ext_base Sg.mixed hF Sg.idle B w0 h

noncomputable def Sg.two : List Nat := [32, 61, 61, 32, 33, 61, 32, 61, 126, 32, 33, 126, 32, 62, 61, 32, 60, 61, 32]
theorem Sg.contains (s : List Nat) (h : (Lib.contains (bs Sg.two).data.toList (bs s).data.toList) = false) : FOk Tryz.prog 24 3 Sg.M (110, [.str Sg.two, .str s], .bool false) := by
  intro B w0 hg ε S w xs hr hx
  obtain ⟨_, hlt, m, hm⟩ := hg
  obtain ⟨x, ys, h1, h2, rfl⟩ := γs_cons.1 hx
  obtain ⟨y, zs, h3, h4, rfl⟩ := γs_cons.1 h2
  rw [γs_nil] at h4
  subst h4
  simp only [γ] at h1 h3
  split at h1 <;> simp at h1
  split at h3 <;> simp at h3
  subst h1; subst h3
  have hm' : w.cell? ⟨3, 0, none⟩ = some (.int .i64 m) := by simpa only [World.cell?, hr.below.block 3 hlt] using hm
  have hsz : (bs Sg.two).size < 4294967281 := by rw [bs_size]; decide
  refine Calls.mono (Tryz.strings_Contains (bs Sg.two) (bs s) m w hsz hm') fun e w' he => ?_
  obtain ⟨rfl, rfl⟩ := he
  exact ⟨.bool false, ε, by rw [h], Env.agr_refl _ _, by simp [γ], hr, Nat.le_refl _⟩
noncomputable def Sg.F1 : Facts := [(110, [.str Sg.two, .str [32, 45, 97, 32]], .bool false), (110, [.str Sg.two, .str [32, 94, 50, 32]], .bool false), (110, [.str Sg.two, .str [32, 43, 32, 32]], .bool false), (110, [.str Sg.two, .str [32, 94, 32, 32]], .bool false)]
theorem Sg.fok1 : ∀ p ∈ Sg.F1, FOk Tryz.prog 24 3 Sg.M p := by
  intro p hp
  simp only [Sg.F1, List.mem_cons, List.not_mem_nil, or_false] at hp
  rcases hp with rfl | rfl | rfl | rfl
  · exact Sg.contains _ (by kernel_rfl)
  · exact Sg.contains _ (by kernel_rfl)
  · exact Sg.contains _ (by kernel_rfl)
  · exact Sg.contains _ (by kernel_rfl)
theorem Sg.fok_cons {p : FuncId × List AV × AV} {F : Facts} (h : FOk Tryz.prog 24 3 Sg.M p) (hF : ∀ q ∈ F, FOk Tryz.prog 24 3 Sg.M q) : ∀ q ∈ p :: F, FOk Tryz.prog 24 3 Sg.M q := by
  intro q hq
  rcases List.mem_cons.1 hq with rfl | hq
  · exact h
  · exact hF q hq
theorem Sg.fact {F : Facts} (hF : ∀ p ∈ F, FOk Tryz.prog 24 3 Sg.M p) {n : Nat} {f : FuncId} {args : List AV} {v : AV} (hrun : (X (Sg.K F) n (.call f args Sg.M)).map (fun o => AVs.beq o.2.1 [v]) = some true)
    (ha : (clos 24 args).isSome = true) (hv : (clo 24 v).isSome = true) : FOk Tryz.prog 24 3 Sg.M (f, args, v) := by
  obtain ⟨xs, hxs⟩ := Option.isSome_iff_exists.1 ha
  obtain ⟨y, hy⟩ := Option.isSome_iff_exists.1 hv
  exact fact_of_run (K := Sg.K F) Sg.still1 Sg.still2 (Sg.kok hF) hrun hxs hy

end Go.Proofs
