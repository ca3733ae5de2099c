/- known: the executor's table at this program; strings.Contains at the four strings at which the lexer asks it. -/
import Derived.Test.YtlealmffhmhchaaGreatDoorRxC
import Derived.Test.YtlealmffhmhchaaGreatDoorKnIdle
import Derived.Test.YtlealmffhmhchaaGreatDoorKnShelf
import GoSem.PinnedTables
namespace Go.Proofs
open Go.RowKit Go.Rx

noncomputable def Kn.u64s (l : List Nat) : List AV := l.map fun (n : Nat) => .int .u64 (n : Int)
noncomputable def Kn.u64p : List AV := Kn.u64s [1, 10, 100, 1000, 10000, 100000, 1000000, 10000000, 100000000, 1000000000, 10000000000, 100000000000, 1000000000000, 10000000000000, 100000000000000, 1000000000000000, 10000000000000000, 100000000000000000, 1000000000000000000, 10000000000000000000]
noncomputable def Kn.G0 : Bl := [(4, some (.cells Kn.u64p 265 none .other)), (7, some (.cells [.bool true] 4 none .other)), (19, some (.cells [.int .u64 52, .int .u64 11, .int .i64 (-1023)] 365 none .other)),
  (0, some (.cells [.iface 126 (.agg [.ptr 23 58])] 100 none .other)), (16, some (.cells (Go.Pinned.pow10Rows.flatMap fun x => [.int .u64 x.1, .int .u64 x.2]) 351 none .other))]
noncomputable def Kn.M : St := { ov := [], base := Kn.G0, nxt := 24 }
noncomputable def Kn.no : ExtNo := ⟨32, 33, 34, 56, 57, 55, 125⟩
noncomputable def Kn.K (F : Facts) : Cfg := ⟨Tryz.prog, 24, xExt Tryz.prog 24 Kn.no, F, [(39, 2)]⟩
theorem Kn.still1 : stillB Kn.M.ov = true := rfl
theorem Kn.still2 : stillB Kn.M.base = true := by kernel_rfl
theorem Kn.extIs : ExtIs Tryz.prog 24 Kn.no where
  gs := by have : Tryz.prog.globals.size = 23 := by kernel_rfl
           omega
  same := run_callFunc_extern Tryz.func125 (by kernel_rfl) (by kernel_rfl) (by kernel_rfl) (by kernel_rfl)
  typeOf := run_callFunc_extern Tryz.func55 (by kernel_rfl) (by kernel_rfl) (by kernel_rfl) (by kernel_rfl)
  valueOf := run_callFunc_extern Tryz.func32 (by kernel_rfl) (by kernel_rfl) (by kernel_rfl) (by kernel_rfl)
  typ := run_callFunc_extern Tryz.func33 (by kernel_rfl) (by kernel_rfl) (by kernel_rfl) (by kernel_rfl)
  isNil := run_callFunc_extern Tryz.func34 (by kernel_rfl) (by kernel_rfl) (by kernel_rfl) (by kernel_rfl)
  elem := run_callFunc_extern Tryz.func56 (by kernel_rfl) (by kernel_rfl) (by kernel_rfl) (by kernel_rfl)
  set := run_callFunc_extern Tryz.func57 (by kernel_rfl) (by kernel_rfl) (by kernel_rfl) (by kernel_rfl)
theorem Kn.mixed : Tryz.prog.follows .mixedOrders = true := by kernel_rfl
theorem Kn.ok39 : funcOk Tryz.prog 39 = true := by kernel_rfl
theorem Kn.idle : ∀ p ∈ [((39 : FuncId), 2)], ∀ (args : Array Value) (w : World), args.size = p.2 → funcOk Tryz.prog p.1 = true ∧ CallsDIn Fence.wide 0 Tryz.prog p.1 args .returning w fun e u w' => (∃ v, e = .returned v) ∧ u = .returning ∧ w' = w := by
  intro p hp args w hs
  rw [List.mem_singleton] at hp
  subst hp
  exact ⟨Kn.ok39, Tryz.idle39 args w hs⟩
theorem Kn.extS : EOk Tryz.prog 24 (xExt Tryz.prog 24 Kn.no) := ext_sound Kn.extIs
theorem Kn.kok {F : Facts} (hF : ∀ p ∈ F, FOk Tryz.prog 24 5 Kn.M p) (B : Nat) (w0 : World) (h : Gb 24 5 B Kn.M w0) : KOk (Kn.K F) B w0 :=
  kok_mk Kn.extS ext_base Kn.mixed hF Kn.idle B w0 h

noncomputable def Kn.two : List Nat := [32, 61, 61, 32, 33, 61, 32, 61, 126, 32, 33, 126, 32, 62, 61, 32, 60, 61, 32]
theorem Kn.contains (s : List Nat) (h : (Lib.contains (bs Kn.two).data.toList (bs s).data.toList) = false) : FOk Tryz.prog 24 5 Kn.M (79, [.str Kn.two, .str s], .bool false) := by
  intro B w0 hg ε S w xs hr hx
  obtain ⟨_, hlt, m, hm⟩ := hg
  obtain ⟨x, ys, h1, h2, rfl⟩ := γs_cons.1 hx
  obtain ⟨y, zs, h3, h4, rfl⟩ := γs_cons.1 h2
  rw [γs_nil] at h4
  subst h4
  simp only [γ] at h1 h3
  split at h1 <;> simp at h1
  split at h3 <;> simp at h3
  subst h1; subst h3
  have hm' : w.cell? ⟨5, 0, none⟩ = some (.int .i64 m) := by simpa only [World.cell?, hr.below.block 5 hlt] using hm
  have hsz : (bs Kn.two).size < 4294967281 := by rw [bs_size]; decide
  refine Calls.mono (Tryz.strings_Contains (bs Kn.two) (bs s) m w hsz hm') fun e w' he => ?_
  obtain ⟨rfl, rfl⟩ := he
  exact ⟨.bool false, ε, by rw [h], Env.agr_refl _ _, by simp [γ], hr, Nat.le_refl _⟩
noncomputable def Kn.F1 : Facts := [(79, [.str Kn.two, .str [32, 45, 97, 32]], .bool false), (79, [.str Kn.two, .str [32, 94, 50, 32]], .bool false), (79, [.str Kn.two, .str [32, 43, 32, 32]], .bool false), (79, [.str Kn.two, .str [32, 94, 32, 32]], .bool false)]
theorem Kn.fok1 : ∀ p ∈ Kn.F1, FOk Tryz.prog 24 5 Kn.M p := by
  intro p hp
  simp only [Kn.F1, List.mem_cons, List.not_mem_nil, or_false] at hp
  rcases hp with rfl | rfl | rfl | rfl
  · exact Kn.contains _ (by kernel_rfl)
  · exact Kn.contains _ (by kernel_rfl)
  · exact Kn.contains _ (by kernel_rfl)
  · exact Kn.contains _ (by kernel_rfl)
theorem Kn.fok_cons {p : FuncId × List AV × AV} {F : Facts} (h : FOk Tryz.prog 24 5 Kn.M p) (hF : ∀ q ∈ F, FOk Tryz.prog 24 5 Kn.M q) : ∀ q ∈ p :: F, FOk Tryz.prog 24 5 Kn.M q := by
  intro q hq
  rcases List.mem_cons.1 hq with rfl | hq
  · exact h
  · exact hF q hq
theorem Kn.fact {F : Facts} (hF : ∀ p ∈ F, FOk Tryz.prog 24 5 Kn.M p) {n : Nat} {f : FuncId} {args : List AV} {v : AV} (hrun : (X (Kn.K F) n (.call f args Kn.M)).map (fun o => AVs.beq o.2.1 [v]) = some true)
    (ha : (clos 24 args).isSome = true) (hv : (clo 24 v).isSome = true) : FOk Tryz.prog 24 5 Kn.M (f, args, v) := by
  obtain ⟨xs, hxs⟩ := Option.isSome_iff_exists.1 ha
  obtain ⟨y, hy⟩ := Option.isSome_iff_exists.1 hv
  exact fact_of_run (K := Kn.K F) Kn.still1 Kn.still2 (Kn.kok hF) hrun hxs hy

end Go.Proofs
