/- ParseSame: weight, much: they answer. -/
import Derived.Test.YtlealmffhmhchaaGreatDoorPa2
namespace Go.Proofs.Pa
open Go.Ex
noncomputable section
noncomputable abbrev TB (h : Hd) (kz : Bool) (kn : Nat) (kk : Nat → List AV) : St := { S0 24 [] [] with ov := [(24, some (.cells (cells h kz kn kk) 45 none .free))], nxt := 25 }
noncomputable def hw (w : Int) (i j : AV) : List AV := mkA 82 [(1, .int .i64 w), (2, .ptr 24 0), (5, i), (6, j)]
section
variable (h : Hd) (kz : Bool) (kn : Nat) (kk : Nat → List AV)
theorem a25_0 (w : Int) (i : Nat) : see [1, 2] (X K 60 (.code (lpOf Tryz.f25 0) (hw w (.int .i64 i) .any) { TB h kz kn kk with orc := [.br false] })) = some (.exit 0, hw w .any .any, (TB h kz kn kk).ov, 25, [], [.br (decide ((i : Int) < (h.mn : Int))) false]) := by kernel_rfl
theorem a25_1 (w : Int) (i : Nat) : see [1, 2] (X K 60 (.code (lpOf Tryz.f25 0) (hw w (.int .i64 i) .any) { TB h kz kn kk with orc := [.br true, .br false] })) = some (.exit 0, hw w .any .any, (TB h kz kn kk).ov, 25, [], [.br (decide (w ≤ 200000)) false, .br (decide ((i : Int) < (h.mn : Int))) true]) := by kernel_rfl
theorem a25_2 (w : Int) (i : Nat) : see [1, 2, 5] (X K 60 (.code (lpOf Tryz.f25 0) (hw w (.int .i64 i) .any) { TB h kz kn kk with orc := [.br true, .br true, .draw [24], .ok, .ok] })) = some (.normal, hw (IntKind.i64.wrap (IntKind.i64.wrap (w + IntKind.i64.wrap (((h.mf i).length : Int).tdiv 8)) + IntKind.i64.wrap (((h.mg i).length : Int).tdiv 8))) (.int .i64 (IntKind.i64.wrap ((i : Int) + 1))) .any, (TB h kz kn kk).ov, 25, [],
  [.ok ((0 : Int) ≤ i ∧ (i : Int) < (h.mn : Int)), .ok ((0 : Int) ≤ i ∧ (i : Int) < (h.mn : Int)), .br (decide (w ≤ 200000)) true, .br (decide ((i : Int) < (h.mn : Int))) true]) := by kernel_rfl
theorem m25 (hn : h.mn ≤ 9223372036854775807) : ∀ (j i : Nat) (w : Int), i + j = h.mn → ∃ w', Lp P 24 [] (lpOf Tryz.f25 0) (hw w (.int .i64 i) .any) (TB h kz kn kk) (.exit 0) (hw w' .any .any) (TB h kz kn kk)
  | 0, i, w, e => ⟨w, Lp.last (Cd.see ok (a25_0 h kz kn kk w i) ⟨by simp [Ob.Al]; omega, trivial⟩) (by simp) (Wk.refl _) (Sm.refl _)⟩
  | j + 1, i, w, e => by
    by_cases hw' : w ≤ 200000
    · obtain ⟨w', hl⟩ := m25 hn j (i + 1) _ (by omega)
      have hr := a25_2 h kz kn kk w i
      rw [wrap_succ (by omega)] at hr
      exact ⟨w', Lp.round (Cd.see ok hr ⟨by simp [Ob.Al]; omega, by simp [Ob.Al]; omega, by simp [Ob.Al]; omega, by simp [Ob.Al]; omega, trivial⟩) rfl (Sm.refl _) (Wk.refl _) hl⟩
    · exact ⟨w, Lp.last (Cd.see ok (a25_1 h kz kn kk w i) ⟨by simp [Ob.Al]; omega, by simp [Ob.Al]; omega, trivial⟩) (by simp) (Wk.refl _) (Sm.refl _)⟩
end
section
variable (h : Hd) (kz : Bool) (kn : Nat) (H : Nat → Hd) (y : Nat → Bool) (d : Nat → Nat) (kk : Nat → Nat → List AV)
noncomputable abbrev TN : St := TB h kz kn (fun i => cells (H i) (y i) (d i) (kk i))
theorem b25_0 (w : Int) (i : Nat) : see [1, 2] (X K 60 (.code (lpOf Tryz.f25 1) (hw w .any (.int .i64 i)) { TN h kz kn H y d kk with orc := [.br false] })) = some (.exit 2, hw w .any .any, (TN h kz kn H y d kk).ov, 25, [], [.br (decide ((i : Int) < (kn : Int))) false]) := by kernel_rfl
theorem b25_1 (w : Int) (i : Nat) : see [1, 2] (X K 60 (.code (lpOf Tryz.f25 1) (hw w .any (.int .i64 i)) { TN h kz kn H y d kk with orc := [.br true, .br false] })) = some (.exit 2, hw w .any .any, (TN h kz kn H y d kk).ov, 25, [], [.br (decide (w ≤ 200000)) false, .br (decide ((i : Int) < (kn : Int))) true]) := by kernel_rfl
theorem b25_2 (w w2 : Int) (i : Nat) : see [1, 2, 6] (X K 60 (.code (lpOf Tryz.f25 1) (hw w .any (.int .i64 i)) { TN h kz kn H y d kk with orc := [.br true, .br true, .ok, .ret (.int .i64 w2)] })) = some (.normal, hw w2 .any (.int .i64 (IntKind.i64.wrap ((i : Int) + 1))), (TN h kz kn H y d kk).ov, 25, [],
  [.pure 25 [node (H i) (y i) (d i) (kk i), .int .i64 w] (.int .i64 w2), .ok ((0 : Int) ≤ i ∧ (i : Int) < (kn : Int)), .br (decide (w ≤ 200000)) true, .br (decide ((i : Int) < (kn : Int))) true]) := by kernel_rfl
theorem n25 (hn : kn ≤ 9223372036854775807) (hq : ∀ i, i < kn → ∀ w, ∃ w2, Pure P 24 [] 25 [node (H i) (y i) (d i) (kk i), .int .i64 w] (.int .i64 w2)) : ∀ (j i : Nat) (w : Int), i + j = kn → ∃ w', Lp P 24 [] (lpOf Tryz.f25 1) (hw w .any (.int .i64 i)) (TN h kz kn H y d kk) (.exit 2) (hw w' .any .any) (TN h kz kn H y d kk)
  | 0, i, w, e => ⟨w, Lp.last (Cd.see ok (b25_0 h kz kn H y d kk w i) ⟨by simp [Ob.Al]; omega, trivial⟩) (by simp) (Wk.refl _) (Sm.refl _)⟩
  | j + 1, i, w, e => by
    by_cases hw' : w ≤ 200000
    · obtain ⟨w2, h2⟩ := hq i (by omega) w
      obtain ⟨w', hl⟩ := n25 hn hq j (i + 1) w2 (by omega)
      have hr := b25_2 h kz kn H y d kk w w2 i
      rw [wrap_succ (by omega)] at hr
      exact ⟨w', Lp.round (Cd.see ok hr ⟨h2, by simp [Ob.Al]; omega, by simp [Ob.Al]; omega, by simp [Ob.Al]; omega, trivial⟩) rfl (Sm.refl _) (Wk.refl _) hl⟩
    · exact ⟨w, Lp.last (Cd.see ok (b25_1 h kz kn H y d kk w i) ⟨by simp [Ob.Al]; omega, by simp [Ob.Al]; omega, trivial⟩) (by simp) (Wk.refl _) (Sm.refl _)⟩
/-- The sum before the loops. -/
noncomputable def w0 (w : Int) : Int := IntKind.i64.wrap (IntKind.i64.wrap (IntKind.i64.wrap (IntKind.i64.wrap (IntKind.i64.wrap (IntKind.i64.wrap (w + 1) + IntKind.i64.wrap ((h.text.length : Int).tdiv 8)) + h.mn) + h.ln) + h.in_) + h.gn)
theorem c25 (w w2 w3 : Int) : seeW P 24 5 [[1, 2, 6], [1, 2, 5]] (X K 60 (.call 25 [node h kz kn (fun i => cells (H i) (y i) (d i) (kk i)), .int .i64 w] { T0 with orc := [.inl, .loop (.exit 0) (hw w2 .any .any) (TN h kz kn H y d kk).ov 25, .loop (.exit 2) (hw w3 .any .any) (TN h kz kn H y d kk).ov 25] })) =
  some (.int .i64 w3, [.loop (lpOf Tryz.f25 1) (hw w2 .any (.int .i64 0)) (TN h kz kn H y d kk).ov [] 25 [] none (.exit 2) (hw w3 .any .any) (TN h kz kn H y d kk).ov 25,
    .loop (lpOf Tryz.f25 0) (hw (w0 h w) (.int .i64 0) .any) (TN h kz kn H y d kk).ov [] 25 [] none (.exit 0) (hw w2 .any .any) (TN h kz kn H y d kk).ov 25]) := by kernel_rfl
theorem p25 (hm : h.mn ≤ 9223372036854775807) (hn : kn ≤ 9223372036854775807) (hq : ∀ i, i < kn → ∀ w, ∃ w2, Pure P 24 [] 25 [node (H i) (y i) (d i) (kk i), .int .i64 w] (.int .i64 w2)) (w : Int) :
    ∃ w', Pure P 24 [] 25 [node h kz kn (fun i => cells (H i) (y i) (d i) (kk i)), .int .i64 w] (.int .i64 w') := by
  obtain ⟨w2, h2⟩ := m25 h kz kn (fun i => cells (H i) (y i) (d i) (kk i)) hm h.mn 0 (w0 h w) (by omega)
  obtain ⟨w3, h3⟩ := n25 h kz kn H y d kk hn hq kn 0 w2 (by omega)
  exact ⟨w3, Pure.seeW ok (c25 h kz kn H y d kk w w2 w3) ⟨h3, h2, trivial⟩⟩
theorem c11 (h : Hd) (kz : Bool) (kn : Nat) (kk : Nat → List AV) (w : Int) : seeP P 24 5 (X K 60 (.call 11 [node h kz kn kk] { T0 with orc := [.inl, .ret (.int .i64 w)] })) = some (.sb (decide (w > 200000)), [.pure 25 [node h kz kn kk, .int .i64 0] (.int .i64 w)]) := by kernel_rfl
end
end
end Go.Proofs.Pa
