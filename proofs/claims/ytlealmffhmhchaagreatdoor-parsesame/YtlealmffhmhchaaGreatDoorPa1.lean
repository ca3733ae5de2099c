/- ParseSame: lists held against each other. Printed by gen1.py. -/
import Derived.Test.YtlealmffhmhchaaGreatDoorPaD
import Derived.Test.YtlealmffhmhchaaGreatDoorEzA
namespace Go.Proofs.Pa
open Go.Ex
noncomputable section
noncomputable abbrev P : Program := Tryz.prog
noncomputable abbrev T0 : St := S0 24 [] []
/-! function 43 -/
noncomputable def h43 (n m : Nat) (z1 z2 : Bool) (f g : Nat → List Nat) (x : AV) : List AV := mkA 26 [(0, strs z1 n f), (1, strs z2 m g), (4, .bool false), (5, x)]
section
variable (n m : Nat) (z1 z2 : Bool) (f g : Nat → List Nat)
theorem r43_0 (i : Nat) : see [0, 1, 4] (X K 60 (.code (lpOf Tryz.f43 0) (h43 n m z1 z2 f g (.int .i64 i)) { T0 with orc := [.br false] })) = some (.exit 0, h43 n m z1 z2 f g .any, [], 24, [], [.br (decide ((i : Int) < (n : Int))) false]) := by kernel_rfl
theorem r43_1 (i : Nat)  : see [0, 1, 4] (X K 60 (.code (lpOf Tryz.f43 0) (h43 n m z1 z2 f g (.int .i64 i)) { T0 with orc := [.br true, .draw [], .ok, .ok, .br true] })) = some (.ret, h43 n m z1 z2 f g .any, [], 24, [],
  [.br (!(neq (f i) (g i))) true, .ok ((0 : Int) ≤ i ∧ (i : Int) < (m : Int)), .ok ((0 : Int) ≤ i ∧ (i : Int) < (n : Int)), .br (decide ((i : Int) < (n : Int))) true]) := by kernel_rfl
theorem r43_2 (i : Nat)  : see [0, 1, 4, 5] (X K 60 (.code (lpOf Tryz.f43 0) (h43 n m z1 z2 f g (.int .i64 i)) { T0 with orc := [.br true, .draw [], .ok, .ok, .br false] })) = some (.normal, h43 n m z1 z2 f g (.int .i64 (IntKind.i64.wrap ((i : Int) + 1))), [], 24, [],
  [.br (!(neq (f i) (g i))) false, .ok ((0 : Int) ≤ i ∧ (i : Int) < (m : Int)), .ok ((0 : Int) ≤ i ∧ (i : Int) < (n : Int)), .br (decide ((i : Int) < (n : Int))) true]) := by kernel_rfl
theorem l43 (hm : m = n) (hn : n ≤ 9223372036854775807) : ∀ j i : Nat, i + j = n → Lp P 24 [] (lpOf Tryz.f43 0) (h43 n m z1 z2 f g (.int .i64 i)) T0 (if allF (fun i => neq (f i) (g i)) i j then .exit 0 else .ret) (h43 n m z1 z2 f g .any) T0
  | 0, i, h => Lp.last (Cd.see ok (r43_0 n m z1 z2 f g i) ⟨by simp [Ob.Al]; omega, trivial⟩) (by simp [allF]) (Wk.refl _) (Sm.refl _)
  | j + 1, i, h => by
    simp only [allF]
    by_cases hp : neq (f i) (g i) = true
    · have hr := r43_2 n m z1 z2 f g i
      rw [wrap_succ (by omega)] at hr
      simp only [hp, Bool.true_and]
      exact Lp.round (Cd.see ok hr ⟨notb hp, by simp [Ob.Al]; omega, by simp [Ob.Al]; omega, by simp [Ob.Al]; omega, trivial⟩) rfl (Sm.refl _) (Wk.refl _) (l43 hm hn j (i + 1) (by omega))
    · have hp : neq (f i) (g i) = false := by simpa using hp
      simp only [hp, Bool.false_and, Bool.false_eq_true, if_false]
      exact Lp.last (Cd.see ok (r43_1 n m z1 z2 f g i) ⟨notb hp, by simp [Ob.Al]; omega, by simp [Ob.Al]; omega, by simp [Ob.Al]; omega, trivial⟩) (by simp) (Wk.refl _) (Sm.refl _)
theorem q43_0 : seeP P 24 5 (X K 60 (.call 43 [strs z1 n f, strs z2 m g] { T0 with orc := [.inl, .br true] })) = some (.bool false, [.br ((n : Int) != (m : Int)) true]) := by kernel_rfl
theorem q43_1 : seeP P 24 5 (X K 60 (.call 43 [strs z1 n f, strs z2 m g] { T0 with orc := [.inl, .br false, .loop (.exit 0) (h43 n m z1 z2 f g .any) [] 24] })) = some (.bool true, [.loop (lpOf Tryz.f43 0) (headOf 26 [(0, strs z1 n f), (1, strs z2 m g), (4, .bool false), (5, .int .i64 0), (6, strs z1 n f), (7, .int .i64 n), (8, strs z2 m g), (9, .int .i64 m), (10, .sb ((n : Int) != (m : Int)))]) [] [] 24 [] none (.exit 0) (h43 n m z1 z2 f g .any) [] 24, .br ((n : Int) != (m : Int)) false]) := by kernel_rfl
theorem q43_2 : seeP P 24 5 (X K 60 (.call 43 [strs z1 n f, strs z2 m g] { T0 with orc := [.inl, .br false, .loop .ret (h43 n m z1 z2 f g .any) [] 24] })) = some (.bool false, [.loop (lpOf Tryz.f43 0) (headOf 26 [(0, strs z1 n f), (1, strs z2 m g), (4, .bool false), (5, .int .i64 0), (6, strs z1 n f), (7, .int .i64 n), (8, strs z2 m g), (9, .int .i64 m), (10, .sb ((n : Int) != (m : Int)))]) [] [] 24 [] none .ret (h43 n m z1 z2 f g .any) [] 24, .br ((n : Int) != (m : Int)) false]) := by kernel_rfl
theorem s43 : Wk (headOf 26 [(0, strs z1 n f), (1, strs z2 m g), (4, .bool false), (5, .int .i64 0), (6, strs z1 n f), (7, .int .i64 n), (8, strs z2 m g), (9, .int .i64 m), (10, .sb ((n : Int) != (m : Int)))]) (h43 n m z1 z2 f g (.int .i64 0)) := wkK [0, 1, 4, 5] (by kernel_rfl)
theorem p43 (hn : n ≤ 9223372036854775807) : Pure P 24 [] 43 [strs z1 n f, strs z2 m g] (.sb (decide (n = m) && allF (fun i => neq (f i) (g i)) 0 n)) := by
  by_cases hm : n = m
  · have hl := (l43 n m z1 z2 f g hm.symm hn n 0 (by omega)).start (s43 n m z1 z2 f g) (Sm.refl _) rfl
    have hb : ((n : Int) != (m : Int)) = false := bne_int.2 hm
    by_cases ha : allF (fun i => neq (f i) (g i)) 0 n = true
    · simp only [ha, if_true] at hl
      rw [show (decide (n = m) && allF (fun i => neq (f i) (g i)) 0 n) = true by rw [ha]; simp [hm]]
      exact (Pure.see ok (q43_1 n m z1 z2 f g) ⟨hl, hb, trivial⟩).wk (AV.le_sb true)
    · have ha : allF (fun i => neq (f i) (g i)) 0 n = false := by simpa using ha
      simp only [ha, Bool.false_eq_true, if_false] at hl
      rw [show (decide (n = m) && allF (fun i => neq (f i) (g i)) 0 n) = false by rw [ha]; simp]
      exact (Pure.see ok (q43_2 n m z1 z2 f g) ⟨hl, hb, trivial⟩).wk (AV.le_sb false)
  · have hb : ((n : Int) != (m : Int)) = true := by simp; omega
    simp only [hm, decide_false, Bool.false_and]
    exact (Pure.see ok (q43_0 n m z1 z2 f g) ⟨hb, trivial⟩).wk (AV.le_sb false)
end
/-! function 47 -/
noncomputable def h47 (n m : Nat) (z1 z2 : Bool) (f g : Nat → List Nat) (x : AV) : List AV := mkA 26 [(0, strs z1 n f), (1, strs z2 m g), (4, .bool false), (12, .int .i64 n), (13, x)]
section
variable (n m : Nat) (z1 z2 : Bool) (f g : Nat → List Nat)
theorem r47_0 (i : Nat) : see [0, 1, 4, 12] (X K 60 (.code (lpOf Tryz.f47 0) (h47 n m z1 z2 f g (.int .i64 i)) { T0 with orc := [.br false] })) = some (.exit 0, h47 n m z1 z2 f g .any, [], 24, [], [.br (decide ((i : Int) < (n : Int))) false]) := by kernel_rfl
theorem r47_1 (i : Nat)  : see [0, 1, 4, 12] (X K 60 (.code (lpOf Tryz.f47 0) (h47 n m z1 z2 f g (.int .i64 i)) { T0 with orc := [.br true, .draw [], .ok, .ok, .br true] })) = some (.ret, h47 n m z1 z2 f g .any, [], 24, [],
  [.br (!(neq (f i) (g i))) true, .ok ((0 : Int) ≤ i ∧ (i : Int) < (m : Int)), .ok ((0 : Int) ≤ i ∧ (i : Int) < (n : Int)), .br (decide ((i : Int) < (n : Int))) true]) := by kernel_rfl
theorem r47_2 (i : Nat)  : see [0, 1, 4, 12, 13] (X K 60 (.code (lpOf Tryz.f47 0) (h47 n m z1 z2 f g (.int .i64 i)) { T0 with orc := [.br true, .draw [], .ok, .ok, .br false] })) = some (.normal, h47 n m z1 z2 f g (.int .i64 (IntKind.i64.wrap ((i : Int) + 1))), [], 24, [],
  [.br (!(neq (f i) (g i))) false, .ok ((0 : Int) ≤ i ∧ (i : Int) < (m : Int)), .ok ((0 : Int) ≤ i ∧ (i : Int) < (n : Int)), .br (decide ((i : Int) < (n : Int))) true]) := by kernel_rfl
theorem l47 (hm : m = n) (hn : n ≤ 9223372036854775807) : ∀ j i : Nat, i + j = n → Lp P 24 [] (lpOf Tryz.f47 0) (h47 n m z1 z2 f g (.int .i64 i)) T0 (if allF (fun i => neq (f i) (g i)) i j then .exit 0 else .ret) (h47 n m z1 z2 f g .any) T0
  | 0, i, h => Lp.last (Cd.see ok (r47_0 n m z1 z2 f g i) ⟨by simp [Ob.Al]; omega, trivial⟩) (by simp [allF]) (Wk.refl _) (Sm.refl _)
  | j + 1, i, h => by
    simp only [allF]
    by_cases hp : neq (f i) (g i) = true
    · have hr := r47_2 n m z1 z2 f g i
      rw [wrap_succ (by omega)] at hr
      simp only [hp, Bool.true_and]
      exact Lp.round (Cd.see ok hr ⟨notb hp, by simp [Ob.Al]; omega, by simp [Ob.Al]; omega, by simp [Ob.Al]; omega, trivial⟩) rfl (Sm.refl _) (Wk.refl _) (l47 hm hn j (i + 1) (by omega))
    · have hp : neq (f i) (g i) = false := by simpa using hp
      simp only [hp, Bool.false_and, Bool.false_eq_true, if_false]
      exact Lp.last (Cd.see ok (r47_1 n m z1 z2 f g i) ⟨notb hp, by simp [Ob.Al]; omega, by simp [Ob.Al]; omega, by simp [Ob.Al]; omega, trivial⟩) (by simp) (Wk.refl _) (Sm.refl _)
theorem q47_0 : seeP P 24 5 (X K 60 (.call 47 [strs z1 n f, strs z2 m g] { T0 with orc := [.inl, .br true] })) = some (.bool false, [.br ((n : Int) != (m : Int)) true]) := by kernel_rfl
theorem q47_1 : seeP P 24 5 (X K 60 (.call 47 [strs z1 n f, strs z2 m g] { T0 with orc := [.inl, .br false, .loop (.exit 0) (h47 n m z1 z2 f g .any) [] 24] })) = some (.bool true, [.loop (lpOf Tryz.f47 0) (headOf 26 [(0, strs z1 n f), (1, strs z2 m g), (4, .bool false), (6, strs z1 n f), (7, .int .i64 n), (8, strs z2 m g), (9, .int .i64 m), (10, .sb ((n : Int) != (m : Int))), (11, strs z1 n f), (12, .int .i64 n), (13, .int .i64 0)]) [] [] 24 [] none (.exit 0) (h47 n m z1 z2 f g .any) [] 24, .br ((n : Int) != (m : Int)) false]) := by kernel_rfl
theorem q47_2 : seeP P 24 5 (X K 60 (.call 47 [strs z1 n f, strs z2 m g] { T0 with orc := [.inl, .br false, .loop .ret (h47 n m z1 z2 f g .any) [] 24] })) = some (.bool false, [.loop (lpOf Tryz.f47 0) (headOf 26 [(0, strs z1 n f), (1, strs z2 m g), (4, .bool false), (6, strs z1 n f), (7, .int .i64 n), (8, strs z2 m g), (9, .int .i64 m), (10, .sb ((n : Int) != (m : Int))), (11, strs z1 n f), (12, .int .i64 n), (13, .int .i64 0)]) [] [] 24 [] none .ret (h47 n m z1 z2 f g .any) [] 24, .br ((n : Int) != (m : Int)) false]) := by kernel_rfl
theorem s47 : Wk (headOf 26 [(0, strs z1 n f), (1, strs z2 m g), (4, .bool false), (6, strs z1 n f), (7, .int .i64 n), (8, strs z2 m g), (9, .int .i64 m), (10, .sb ((n : Int) != (m : Int))), (11, strs z1 n f), (12, .int .i64 n), (13, .int .i64 0)]) (h47 n m z1 z2 f g (.int .i64 0)) := wkK [0, 1, 4, 12, 13] (by kernel_rfl)
theorem p47 (hn : n ≤ 9223372036854775807) : Pure P 24 [] 47 [strs z1 n f, strs z2 m g] (.sb (decide (n = m) && allF (fun i => neq (f i) (g i)) 0 n)) := by
  by_cases hm : n = m
  · have hl := (l47 n m z1 z2 f g hm.symm hn n 0 (by omega)).start (s47 n m z1 z2 f g) (Sm.refl _) rfl
    have hb : ((n : Int) != (m : Int)) = false := bne_int.2 hm
    by_cases ha : allF (fun i => neq (f i) (g i)) 0 n = true
    · simp only [ha, if_true] at hl
      rw [show (decide (n = m) && allF (fun i => neq (f i) (g i)) 0 n) = true by rw [ha]; simp [hm]]
      exact (Pure.see ok (q47_1 n m z1 z2 f g) ⟨hl, hb, trivial⟩).wk (AV.le_sb true)
    · have ha : allF (fun i => neq (f i) (g i)) 0 n = false := by simpa using ha
      simp only [ha, Bool.false_eq_true, if_false] at hl
      rw [show (decide (n = m) && allF (fun i => neq (f i) (g i)) 0 n) = false by rw [ha]; simp]
      exact (Pure.see ok (q47_2 n m z1 z2 f g) ⟨hl, hb, trivial⟩).wk (AV.le_sb false)
  · have hb : ((n : Int) != (m : Int)) = true := by simp; omega
    simp only [hm, decide_false, Bool.false_and]
    exact (Pure.see ok (q47_0 n m z1 z2 f g) ⟨hb, trivial⟩).wk (AV.le_sb false)
end
/-! function 21 -/
noncomputable def h21 (n m : Nat) (z1 z2 : Bool) (k k' : Nat → Int) (f f' g g' : Nat → List Nat) (x : AV) : List AV := mkA 26 [(0, mats z1 n k f f'), (1, mats z2 m k' g g'), (4, .bool false), (5, x)]
section
variable (n m : Nat) (z1 z2 : Bool) (k k' : Nat → Int) (f f' g g' : Nat → List Nat)
theorem r21_0 (i : Nat) : see [0, 1, 4] (X K 60 (.code (lpOf Tryz.f21 0) (h21 n m z1 z2 k k' f f' g g' (.int .i64 i)) { T0 with orc := [.br false] })) = some (.exit 0, h21 n m z1 z2 k k' f f' g g' .any, [], 24, [], [.br (decide ((i : Int) < (n : Int))) false]) := by kernel_rfl
theorem r21_1 (i : Nat)  : see [0, 1, 4] (X K 60 (.code (lpOf Tryz.f21 0) (h21 n m z1 z2 k k' f f' g g' (.int .i64 i)) { T0 with orc := [.br true, .draw [], .ok, .ok, .br true] })) = some (.ret, h21 n m z1 z2 k k' f f' g g' .any, [], 24, [],
  [.br (!(k i == k' i && (neq (f i) (g i) && (neq (f' i) (g' i) && true)))) true, .ok ((0 : Int) ≤ i ∧ (i : Int) < (m : Int)), .ok ((0 : Int) ≤ i ∧ (i : Int) < (n : Int)), .br (decide ((i : Int) < (n : Int))) true]) := by kernel_rfl
theorem r21_2 (i : Nat)  : see [0, 1, 4, 5] (X K 60 (.code (lpOf Tryz.f21 0) (h21 n m z1 z2 k k' f f' g g' (.int .i64 i)) { T0 with orc := [.br true, .draw [], .ok, .ok, .br false] })) = some (.normal, h21 n m z1 z2 k k' f f' g g' (.int .i64 (IntKind.i64.wrap ((i : Int) + 1))), [], 24, [],
  [.br (!(k i == k' i && (neq (f i) (g i) && (neq (f' i) (g' i) && true)))) false, .ok ((0 : Int) ≤ i ∧ (i : Int) < (m : Int)), .ok ((0 : Int) ≤ i ∧ (i : Int) < (n : Int)), .br (decide ((i : Int) < (n : Int))) true]) := by kernel_rfl
theorem l21 (hm : m = n) (hn : n ≤ 9223372036854775807) : ∀ j i : Nat, i + j = n → Lp P 24 [] (lpOf Tryz.f21 0) (h21 n m z1 z2 k k' f f' g g' (.int .i64 i)) T0 (if allF (fun i => k i == k' i && (neq (f i) (g i) && (neq (f' i) (g' i) && true))) i j then .exit 0 else .ret) (h21 n m z1 z2 k k' f f' g g' .any) T0
  | 0, i, h => Lp.last (Cd.see ok (r21_0 n m z1 z2 k k' f f' g g' i) ⟨by simp [Ob.Al]; omega, trivial⟩) (by simp [allF]) (Wk.refl _) (Sm.refl _)
  | j + 1, i, h => by
    simp only [allF]
    by_cases hp : (k i == k' i && (neq (f i) (g i) && (neq (f' i) (g' i) && true))) = true
    · have hr := r21_2 n m z1 z2 k k' f f' g g' i
      rw [wrap_succ (by omega)] at hr
      simp only [hp, Bool.true_and]
      exact Lp.round (Cd.see ok hr ⟨notb hp, by simp [Ob.Al]; omega, by simp [Ob.Al]; omega, by simp [Ob.Al]; omega, trivial⟩) rfl (Sm.refl _) (Wk.refl _) (l21 hm hn j (i + 1) (by omega))
    · have hp : (k i == k' i && (neq (f i) (g i) && (neq (f' i) (g' i) && true))) = false := by simpa using hp
      simp only [hp, Bool.false_and, Bool.false_eq_true, if_false]
      exact Lp.last (Cd.see ok (r21_1 n m z1 z2 k k' f f' g g' i) ⟨notb hp, by simp [Ob.Al]; omega, by simp [Ob.Al]; omega, by simp [Ob.Al]; omega, trivial⟩) (by simp) (Wk.refl _) (Sm.refl _)
theorem q21_0 : seeP P 24 5 (X K 60 (.call 21 [mats z1 n k f f', mats z2 m k' g g'] { T0 with orc := [.inl, .br true] })) = some (.bool false, [.br ((n : Int) != (m : Int)) true]) := by kernel_rfl
theorem q21_1 : seeP P 24 5 (X K 60 (.call 21 [mats z1 n k f f', mats z2 m k' g g'] { T0 with orc := [.inl, .br false, .loop (.exit 0) (h21 n m z1 z2 k k' f f' g g' .any) [] 24] })) = some (.bool true, [.loop (lpOf Tryz.f21 0) (headOf 26 [(0, mats z1 n k f f'), (1, mats z2 m k' g g'), (4, .bool false), (5, .int .i64 0), (6, mats z1 n k f f'), (7, .int .i64 n), (8, mats z2 m k' g g'), (9, .int .i64 m), (10, .sb ((n : Int) != (m : Int)))]) [] [] 24 [] none (.exit 0) (h21 n m z1 z2 k k' f f' g g' .any) [] 24, .br ((n : Int) != (m : Int)) false]) := by kernel_rfl
theorem q21_2 : seeP P 24 5 (X K 60 (.call 21 [mats z1 n k f f', mats z2 m k' g g'] { T0 with orc := [.inl, .br false, .loop .ret (h21 n m z1 z2 k k' f f' g g' .any) [] 24] })) = some (.bool false, [.loop (lpOf Tryz.f21 0) (headOf 26 [(0, mats z1 n k f f'), (1, mats z2 m k' g g'), (4, .bool false), (5, .int .i64 0), (6, mats z1 n k f f'), (7, .int .i64 n), (8, mats z2 m k' g g'), (9, .int .i64 m), (10, .sb ((n : Int) != (m : Int)))]) [] [] 24 [] none .ret (h21 n m z1 z2 k k' f f' g g' .any) [] 24, .br ((n : Int) != (m : Int)) false]) := by kernel_rfl
theorem s21 : Wk (headOf 26 [(0, mats z1 n k f f'), (1, mats z2 m k' g g'), (4, .bool false), (5, .int .i64 0), (6, mats z1 n k f f'), (7, .int .i64 n), (8, mats z2 m k' g g'), (9, .int .i64 m), (10, .sb ((n : Int) != (m : Int)))]) (h21 n m z1 z2 k k' f f' g g' (.int .i64 0)) := wkK [0, 1, 4, 5] (by kernel_rfl)
theorem p21 (hn : n ≤ 9223372036854775807) : Pure P 24 [] 21 [mats z1 n k f f', mats z2 m k' g g'] (.sb (decide (n = m) && allF (fun i => k i == k' i && (neq (f i) (g i) && (neq (f' i) (g' i) && true))) 0 n)) := by
  by_cases hm : n = m
  · have hl := (l21 n m z1 z2 k k' f f' g g' hm.symm hn n 0 (by omega)).start (s21 n m z1 z2 k k' f f' g g') (Sm.refl _) rfl
    have hb : ((n : Int) != (m : Int)) = false := bne_int.2 hm
    by_cases ha : allF (fun i => k i == k' i && (neq (f i) (g i) && (neq (f' i) (g' i) && true))) 0 n = true
    · simp only [ha, if_true] at hl
      rw [show (decide (n = m) && allF (fun i => k i == k' i && (neq (f i) (g i) && (neq (f' i) (g' i) && true))) 0 n) = true by rw [ha]; simp [hm]]
      exact (Pure.see ok (q21_1 n m z1 z2 k k' f f' g g') ⟨hl, hb, trivial⟩).wk (AV.le_sb true)
    · have ha : allF (fun i => k i == k' i && (neq (f i) (g i) && (neq (f' i) (g' i) && true))) 0 n = false := by simpa using ha
      simp only [ha, Bool.false_eq_true, if_false] at hl
      rw [show (decide (n = m) && allF (fun i => k i == k' i && (neq (f i) (g i) && (neq (f' i) (g' i) && true))) 0 n) = false by rw [ha]; simp]
      exact (Pure.see ok (q21_2 n m z1 z2 k k' f f' g g') ⟨hl, hb, trivial⟩).wk (AV.le_sb false)
  · have hb : ((n : Int) != (m : Int)) = true := by simp; omega
    simp only [hm, decide_false, Bool.false_and]
    exact (Pure.see ok (q21_0 n m z1 z2 k k' f f' g g') ⟨hb, trivial⟩).wk (AV.le_sb false)
end
/-! function 46 -/
noncomputable def h46 (n m : Nat) (z1 z2 : Bool) (k k' : Nat → Int) (f f' g g' : Nat → List Nat) (x : AV) : List AV := mkA 26 [(0, mats z1 n k f f'), (1, mats z2 m k' g g'), (4, .bool false), (12, .int .i64 n), (13, x)]
section
variable (n m : Nat) (z1 z2 : Bool) (k k' : Nat → Int) (f f' g g' : Nat → List Nat)
theorem r46_0 (i : Nat) : see [0, 1, 4, 12] (X K 60 (.code (lpOf Tryz.f46 0) (h46 n m z1 z2 k k' f f' g g' (.int .i64 i)) { T0 with orc := [.br false] })) = some (.exit 0, h46 n m z1 z2 k k' f f' g g' .any, [], 24, [], [.br (decide ((i : Int) < (n : Int))) false]) := by kernel_rfl
theorem r46_1 (i : Nat)  : see [0, 1, 4, 12] (X K 60 (.code (lpOf Tryz.f46 0) (h46 n m z1 z2 k k' f f' g g' (.int .i64 i)) { T0 with orc := [.br true, .draw [], .ok, .ok, .br true] })) = some (.ret, h46 n m z1 z2 k k' f f' g g' .any, [], 24, [],
  [.br (!(k i == k' i && (neq (f i) (g i) && (neq (f' i) (g' i) && true)))) true, .ok ((0 : Int) ≤ i ∧ (i : Int) < (m : Int)), .ok ((0 : Int) ≤ i ∧ (i : Int) < (n : Int)), .br (decide ((i : Int) < (n : Int))) true]) := by kernel_rfl
theorem r46_2 (i : Nat)  : see [0, 1, 4, 12, 13] (X K 60 (.code (lpOf Tryz.f46 0) (h46 n m z1 z2 k k' f f' g g' (.int .i64 i)) { T0 with orc := [.br true, .draw [], .ok, .ok, .br false] })) = some (.normal, h46 n m z1 z2 k k' f f' g g' (.int .i64 (IntKind.i64.wrap ((i : Int) + 1))), [], 24, [],
  [.br (!(k i == k' i && (neq (f i) (g i) && (neq (f' i) (g' i) && true)))) false, .ok ((0 : Int) ≤ i ∧ (i : Int) < (m : Int)), .ok ((0 : Int) ≤ i ∧ (i : Int) < (n : Int)), .br (decide ((i : Int) < (n : Int))) true]) := by kernel_rfl
theorem l46 (hm : m = n) (hn : n ≤ 9223372036854775807) : ∀ j i : Nat, i + j = n → Lp P 24 [] (lpOf Tryz.f46 0) (h46 n m z1 z2 k k' f f' g g' (.int .i64 i)) T0 (if allF (fun i => k i == k' i && (neq (f i) (g i) && (neq (f' i) (g' i) && true))) i j then .exit 0 else .ret) (h46 n m z1 z2 k k' f f' g g' .any) T0
  | 0, i, h => Lp.last (Cd.see ok (r46_0 n m z1 z2 k k' f f' g g' i) ⟨by simp [Ob.Al]; omega, trivial⟩) (by simp [allF]) (Wk.refl _) (Sm.refl _)
  | j + 1, i, h => by
    simp only [allF]
    by_cases hp : (k i == k' i && (neq (f i) (g i) && (neq (f' i) (g' i) && true))) = true
    · have hr := r46_2 n m z1 z2 k k' f f' g g' i
      rw [wrap_succ (by omega)] at hr
      simp only [hp, Bool.true_and]
      exact Lp.round (Cd.see ok hr ⟨notb hp, by simp [Ob.Al]; omega, by simp [Ob.Al]; omega, by simp [Ob.Al]; omega, trivial⟩) rfl (Sm.refl _) (Wk.refl _) (l46 hm hn j (i + 1) (by omega))
    · have hp : (k i == k' i && (neq (f i) (g i) && (neq (f' i) (g' i) && true))) = false := by simpa using hp
      simp only [hp, Bool.false_and, Bool.false_eq_true, if_false]
      exact Lp.last (Cd.see ok (r46_1 n m z1 z2 k k' f f' g g' i) ⟨notb hp, by simp [Ob.Al]; omega, by simp [Ob.Al]; omega, by simp [Ob.Al]; omega, trivial⟩) (by simp) (Wk.refl _) (Sm.refl _)
theorem q46_0 : seeP P 24 5 (X K 60 (.call 46 [mats z1 n k f f', mats z2 m k' g g'] { T0 with orc := [.inl, .br true] })) = some (.bool false, [.br ((n : Int) != (m : Int)) true]) := by kernel_rfl
theorem q46_1 : seeP P 24 5 (X K 60 (.call 46 [mats z1 n k f f', mats z2 m k' g g'] { T0 with orc := [.inl, .br false, .loop (.exit 0) (h46 n m z1 z2 k k' f f' g g' .any) [] 24] })) = some (.bool true, [.loop (lpOf Tryz.f46 0) (headOf 26 [(0, mats z1 n k f f'), (1, mats z2 m k' g g'), (4, .bool false), (6, mats z1 n k f f'), (7, .int .i64 n), (8, mats z2 m k' g g'), (9, .int .i64 m), (10, .sb ((n : Int) != (m : Int))), (11, mats z1 n k f f'), (12, .int .i64 n), (13, .int .i64 0)]) [] [] 24 [] none (.exit 0) (h46 n m z1 z2 k k' f f' g g' .any) [] 24, .br ((n : Int) != (m : Int)) false]) := by kernel_rfl
theorem q46_2 : seeP P 24 5 (X K 60 (.call 46 [mats z1 n k f f', mats z2 m k' g g'] { T0 with orc := [.inl, .br false, .loop .ret (h46 n m z1 z2 k k' f f' g g' .any) [] 24] })) = some (.bool false, [.loop (lpOf Tryz.f46 0) (headOf 26 [(0, mats z1 n k f f'), (1, mats z2 m k' g g'), (4, .bool false), (6, mats z1 n k f f'), (7, .int .i64 n), (8, mats z2 m k' g g'), (9, .int .i64 m), (10, .sb ((n : Int) != (m : Int))), (11, mats z1 n k f f'), (12, .int .i64 n), (13, .int .i64 0)]) [] [] 24 [] none .ret (h46 n m z1 z2 k k' f f' g g' .any) [] 24, .br ((n : Int) != (m : Int)) false]) := by kernel_rfl
theorem s46 : Wk (headOf 26 [(0, mats z1 n k f f'), (1, mats z2 m k' g g'), (4, .bool false), (6, mats z1 n k f f'), (7, .int .i64 n), (8, mats z2 m k' g g'), (9, .int .i64 m), (10, .sb ((n : Int) != (m : Int))), (11, mats z1 n k f f'), (12, .int .i64 n), (13, .int .i64 0)]) (h46 n m z1 z2 k k' f f' g g' (.int .i64 0)) := wkK [0, 1, 4, 12, 13] (by kernel_rfl)
theorem p46 (hn : n ≤ 9223372036854775807) : Pure P 24 [] 46 [mats z1 n k f f', mats z2 m k' g g'] (.sb (decide (n = m) && allF (fun i => k i == k' i && (neq (f i) (g i) && (neq (f' i) (g' i) && true))) 0 n)) := by
  by_cases hm : n = m
  · have hl := (l46 n m z1 z2 k k' f f' g g' hm.symm hn n 0 (by omega)).start (s46 n m z1 z2 k k' f f' g g') (Sm.refl _) rfl
    have hb : ((n : Int) != (m : Int)) = false := bne_int.2 hm
    by_cases ha : allF (fun i => k i == k' i && (neq (f i) (g i) && (neq (f' i) (g' i) && true))) 0 n = true
    · simp only [ha, if_true] at hl
      rw [show (decide (n = m) && allF (fun i => k i == k' i && (neq (f i) (g i) && (neq (f' i) (g' i) && true))) 0 n) = true by rw [ha]; simp [hm]]
      exact (Pure.see ok (q46_1 n m z1 z2 k k' f f' g g') ⟨hl, hb, trivial⟩).wk (AV.le_sb true)
    · have ha : allF (fun i => k i == k' i && (neq (f i) (g i) && (neq (f' i) (g' i) && true))) 0 n = false := by simpa using ha
      simp only [ha, Bool.false_eq_true, if_false] at hl
      rw [show (decide (n = m) && allF (fun i => k i == k' i && (neq (f i) (g i) && (neq (f' i) (g' i) && true))) 0 n) = false by rw [ha]; simp]
      exact (Pure.see ok (q46_2 n m z1 z2 k k' f f' g g') ⟨hl, hb, trivial⟩).wk (AV.le_sb false)
  · have hb : ((n : Int) != (m : Int)) = true := by simp; omega
    simp only [hm, decide_false, Bool.false_and]
    exact (Pure.see ok (q46_0 n m z1 z2 k k' f f' g g') ⟨hb, trivial⟩).wk (AV.le_sb false)
end
/-! function 24 -/
noncomputable def h24 (n m : Nat) (z1 z2 : Bool) (H H' : Nat → Hd) (y y' : Nat → Bool) (d d' : Nat → Nat) (kk kk' : Nat → Nat → List AV) (q : Nat → Bool) (x : AV) : List AV := mkA 27 [(0, ndl z1 n H y d kk), (1, ndl z2 m H' y' d' kk'), (4, .bool false), (5, x)]
section
variable (n m : Nat) (z1 z2 : Bool) (H H' : Nat → Hd) (y y' : Nat → Bool) (d d' : Nat → Nat) (kk kk' : Nat → Nat → List AV) (q : Nat → Bool)
theorem r24_0 (i : Nat) : see [0, 1, 4] (X K 60 (.code (lpOf Tryz.f24 0) (h24 n m z1 z2 H H' y y' d d' kk kk' q (.int .i64 i)) { T0 with orc := [.br false] })) = some (.exit 0, h24 n m z1 z2 H H' y y' d d' kk kk' q .any, [], 24, [], [.br (decide ((i : Int) < (n : Int))) false]) := by kernel_rfl
theorem r24_1 (i : Nat)  : see [0, 1, 4] (X K 60 (.code (lpOf Tryz.f24 0) (h24 n m z1 z2 H H' y y' d d' kk kk' q (.int .i64 i)) { T0 with orc := [.br true, .draw [], .ok, .ok, .ret (.sb (q i)), .br true] })) = some (.ret, h24 n m z1 z2 H H' y y' d d' kk kk' q .any, [], 24, [],
  [.br (!(q i)) true, .pure 10 [node (H i) (y i) (d i) (kk i), node (H' i) (y' i) (d' i) (kk' i)] (.sb (q i)), .ok ((0 : Int) ≤ i ∧ (i : Int) < (m : Int)), .ok ((0 : Int) ≤ i ∧ (i : Int) < (n : Int)), .br (decide ((i : Int) < (n : Int))) true]) := by kernel_rfl
theorem r24_2 (i : Nat)  : see [0, 1, 4, 5] (X K 60 (.code (lpOf Tryz.f24 0) (h24 n m z1 z2 H H' y y' d d' kk kk' q (.int .i64 i)) { T0 with orc := [.br true, .draw [], .ok, .ok, .ret (.sb (q i)), .br false] })) = some (.normal, h24 n m z1 z2 H H' y y' d d' kk kk' q (.int .i64 (IntKind.i64.wrap ((i : Int) + 1))), [], 24, [],
  [.br (!(q i)) false, .pure 10 [node (H i) (y i) (d i) (kk i), node (H' i) (y' i) (d' i) (kk' i)] (.sb (q i)), .ok ((0 : Int) ≤ i ∧ (i : Int) < (m : Int)), .ok ((0 : Int) ≤ i ∧ (i : Int) < (n : Int)), .br (decide ((i : Int) < (n : Int))) true]) := by kernel_rfl
theorem l24 (hm : m = n) (hn : n ≤ 9223372036854775807) (hq : ∀ i, i < n → i < m → Pure P 24 [] 10 [node (H i) (y i) (d i) (kk i), node (H' i) (y' i) (d' i) (kk' i)] (.sb (q i))) : ∀ j i : Nat, i + j = n → Lp P 24 [] (lpOf Tryz.f24 0) (h24 n m z1 z2 H H' y y' d d' kk kk' q (.int .i64 i)) T0 (if allF q i j then .exit 0 else .ret) (h24 n m z1 z2 H H' y y' d d' kk kk' q .any) T0
  | 0, i, h => Lp.last (Cd.see ok (r24_0 n m z1 z2 H H' y y' d d' kk kk' q i) ⟨by simp [Ob.Al]; omega, trivial⟩) (by simp [allF]) (Wk.refl _) (Sm.refl _)
  | j + 1, i, h => by
    simp only [allF]
    by_cases hp : q i = true
    · have hr := r24_2 n m z1 z2 H H' y y' d d' kk kk' q i
      rw [wrap_succ (by omega)] at hr
      simp only [hp, Bool.true_and]
      exact Lp.round (Cd.see ok hr ⟨notb hp, hq i (by omega) (by omega), by simp [Ob.Al]; omega, by simp [Ob.Al]; omega, by simp [Ob.Al]; omega, trivial⟩) rfl (Sm.refl _) (Wk.refl _) (l24 hm hn hq j (i + 1) (by omega))
    · have hp : q i = false := by simpa using hp
      simp only [hp, Bool.false_and, Bool.false_eq_true, if_false]
      exact Lp.last (Cd.see ok (r24_1 n m z1 z2 H H' y y' d d' kk kk' q i) ⟨notb hp, hq i (by omega) (by omega), by simp [Ob.Al]; omega, by simp [Ob.Al]; omega, by simp [Ob.Al]; omega, trivial⟩) (by simp) (Wk.refl _) (Sm.refl _)
theorem q24_0 : seeP P 24 5 (X K 60 (.call 24 [ndl z1 n H y d kk, ndl z2 m H' y' d' kk'] { T0 with orc := [.inl, .br true] })) = some (.bool false, [.br ((n : Int) != (m : Int)) true]) := by kernel_rfl
theorem q24_1 : seeP P 24 5 (X K 60 (.call 24 [ndl z1 n H y d kk, ndl z2 m H' y' d' kk'] { T0 with orc := [.inl, .br false, .loop (.exit 0) (h24 n m z1 z2 H H' y y' d d' kk kk' q .any) [] 24] })) = some (.bool true, [.loop (lpOf Tryz.f24 0) (headOf 27 [(0, ndl z1 n H y d kk), (1, ndl z2 m H' y' d' kk'), (4, .bool false), (5, .int .i64 0), (6, ndl z1 n H y d kk), (7, .int .i64 n), (8, ndl z2 m H' y' d' kk'), (9, .int .i64 m), (10, .sb ((n : Int) != (m : Int)))]) [] [] 24 [] none (.exit 0) (h24 n m z1 z2 H H' y y' d d' kk kk' q .any) [] 24, .br ((n : Int) != (m : Int)) false]) := by kernel_rfl
theorem q24_2 : seeP P 24 5 (X K 60 (.call 24 [ndl z1 n H y d kk, ndl z2 m H' y' d' kk'] { T0 with orc := [.inl, .br false, .loop .ret (h24 n m z1 z2 H H' y y' d d' kk kk' q .any) [] 24] })) = some (.bool false, [.loop (lpOf Tryz.f24 0) (headOf 27 [(0, ndl z1 n H y d kk), (1, ndl z2 m H' y' d' kk'), (4, .bool false), (5, .int .i64 0), (6, ndl z1 n H y d kk), (7, .int .i64 n), (8, ndl z2 m H' y' d' kk'), (9, .int .i64 m), (10, .sb ((n : Int) != (m : Int)))]) [] [] 24 [] none .ret (h24 n m z1 z2 H H' y y' d d' kk kk' q .any) [] 24, .br ((n : Int) != (m : Int)) false]) := by kernel_rfl
theorem s24 : Wk (headOf 27 [(0, ndl z1 n H y d kk), (1, ndl z2 m H' y' d' kk'), (4, .bool false), (5, .int .i64 0), (6, ndl z1 n H y d kk), (7, .int .i64 n), (8, ndl z2 m H' y' d' kk'), (9, .int .i64 m), (10, .sb ((n : Int) != (m : Int)))]) (h24 n m z1 z2 H H' y y' d d' kk kk' q (.int .i64 0)) := wkK [0, 1, 4, 5] (by kernel_rfl)
theorem p24 (hn : n ≤ 9223372036854775807) (hq : ∀ i, i < n → i < m → Pure P 24 [] 10 [node (H i) (y i) (d i) (kk i), node (H' i) (y' i) (d' i) (kk' i)] (.sb (q i))) : Pure P 24 [] 24 [ndl z1 n H y d kk, ndl z2 m H' y' d' kk'] (.sb (decide (n = m) && allF q 0 n)) := by
  by_cases hm : n = m
  · have hl := (l24 n m z1 z2 H H' y y' d d' kk kk' q hm.symm hn hq n 0 (by omega)).start (s24 n m z1 z2 H H' y y' d d' kk kk' q) (Sm.refl _) rfl
    have hb : ((n : Int) != (m : Int)) = false := bne_int.2 hm
    by_cases ha : allF q 0 n = true
    · simp only [ha, if_true] at hl
      rw [show (decide (n = m) && allF q 0 n) = true by rw [ha]; simp [hm]]
      exact (Pure.see ok (q24_1 n m z1 z2 H H' y y' d d' kk kk' q) ⟨hl, hb, trivial⟩).wk (AV.le_sb true)
    · have ha : allF q 0 n = false := by simpa using ha
      simp only [ha, Bool.false_eq_true, if_false] at hl
      rw [show (decide (n = m) && allF q 0 n) = false by rw [ha]; simp]
      exact (Pure.see ok (q24_2 n m z1 z2 H H' y y' d d' kk kk' q) ⟨hl, hb, trivial⟩).wk (AV.le_sb false)
  · have hb : ((n : Int) != (m : Int)) = true := by simp; omega
    simp only [hm, decide_false, Bool.false_and]
    exact (Pure.see ok (q24_0 n m z1 z2 H H' y y' d d' kk kk') ⟨hb, trivial⟩).wk (AV.le_sb false)
end
/-! function 30 -/
noncomputable def h30 (n m : Nat) (z1 z2 : Bool) (H H' : Nat → Hd) (y y' : Nat → Bool) (d d' : Nat → Nat) (kk kk' : Nat → Nat → List AV) (q : Nat → Bool) (x : AV) : List AV := mkA 32 [(0, ndl z1 n H y d kk), (1, ndl z2 m H' y' d' kk'), (2, .func (.func 14) [] []), (6, .bool false), (15, ndl z1 n H y d kk), (16, .int .i64 n), (17, x)]
section
variable (n m : Nat) (z1 z2 : Bool) (H H' : Nat → Hd) (y y' : Nat → Bool) (d d' : Nat → Nat) (kk kk' : Nat → Nat → List AV) (q : Nat → Bool)
theorem r30_0 (i : Nat) : see [0, 1, 2, 6, 15, 16] (X K 60 (.code (lpOf Tryz.f30 0) (h30 n m z1 z2 H H' y y' d d' kk kk' q (.int .i64 i)) { T0 with orc := [.br false] })) = some (.exit 0, h30 n m z1 z2 H H' y y' d d' kk kk' q .any, [], 24, [], [.br (decide ((i : Int) < (n : Int))) false]) := by kernel_rfl
theorem r30_1 (i : Nat)  : seeC 24 [0, 1, 2, 6, 15, 16] (X K 60 (.code (lpOf Tryz.f30 0) (h30 n m z1 z2 H H' y y' d d' kk kk' q (.int .i64 i)) { T0 with orc := [.br true, .ok, .ok, .ret (.sb (q i)), .br true] })) = some (.ret, h30 n m z1 z2 H H' y y' d d' kk kk' q .any, [], [], true,
  [.br (!(q i)) true, .pure 14 [node (H i) (y i) (d i) (kk i), node (H' i) (y' i) (d' i) (kk' i)] (.sb (q i)), .ok ((0 : Int) ≤ i ∧ (i : Int) < (m : Int)), .ok ((0 : Int) ≤ i ∧ (i : Int) < (n : Int)), .br (decide ((i : Int) < (n : Int))) true]) := by kernel_rfl
theorem r30_2 (i : Nat)  : seeC 24 [0, 1, 2, 6, 15, 16, 17] (X K 60 (.code (lpOf Tryz.f30 0) (h30 n m z1 z2 H H' y y' d d' kk kk' q (.int .i64 i)) { T0 with orc := [.br true, .ok, .ok, .ret (.sb (q i)), .br false] })) = some (.normal, h30 n m z1 z2 H H' y y' d d' kk kk' q (.int .i64 (IntKind.i64.wrap ((i : Int) + 1))), [], [], true,
  [.br (!(q i)) false, .pure 14 [node (H i) (y i) (d i) (kk i), node (H' i) (y' i) (d' i) (kk' i)] (.sb (q i)), .ok ((0 : Int) ≤ i ∧ (i : Int) < (m : Int)), .ok ((0 : Int) ≤ i ∧ (i : Int) < (n : Int)), .br (decide ((i : Int) < (n : Int))) true]) := by kernel_rfl
theorem l30 (hm : m = n) (hn : n ≤ 9223372036854775807) (hq : ∀ i, i < n → i < m → Pure P 24 [] 14 [node (H i) (y i) (d i) (kk i), node (H' i) (y' i) (d' i) (kk' i)] (.sb (q i))) : ∀ j i : Nat, i + j = n → Lp P 24 [] (lpOf Tryz.f30 0) (h30 n m z1 z2 H H' y y' d d' kk kk' q (.int .i64 i)) T0 (if allF q i j then .exit 0 else .ret) (h30 n m z1 z2 H H' y y' d d' kk kk' q .any) T0
  | 0, i, h => Lp.last (Cd.see ok (r30_0 n m z1 z2 H H' y y' d d' kk kk' q i) ⟨by simp [Ob.Al]; omega, trivial⟩) (by simp [allF]) (Wk.refl _) (Sm.refl _)
  | j + 1, i, h => by
    simp only [allF]
    by_cases hp : q i = true
    · have hr := r30_2 n m z1 z2 H H' y y' d d' kk kk' q i
      rw [wrap_succ (by omega)] at hr
      simp only [hp, Bool.true_and]
      exact Lp.round (Cd.seeC ok 24 hr ⟨notb hp, hq i (by omega) (by omega), by simp [Ob.Al]; omega, by simp [Ob.Al]; omega, by simp [Ob.Al]; omega, trivial⟩ (Nat.le_refl _) (Nat.le_refl _) rfl) rfl (Sm.refl _) (Wk.refl _) (l30 hm hn hq j (i + 1) (by omega))
    · have hp : q i = false := by simpa using hp
      simp only [hp, Bool.false_and, Bool.false_eq_true, if_false]
      exact Lp.last (Cd.seeC ok 24 (r30_1 n m z1 z2 H H' y y' d d' kk kk' q i) ⟨notb hp, hq i (by omega) (by omega), by simp [Ob.Al]; omega, by simp [Ob.Al]; omega, by simp [Ob.Al]; omega, trivial⟩ (Nat.le_refl _) (Nat.le_refl _) rfl) (by simp) (Wk.refl _) (Sm.refl _)
theorem q30_0 : seeP P 24 5 (X K 60 (.call 30 [ndl z1 n H y d kk, ndl z2 m H' y' d' kk', .func (.func 14) [] []] { T0 with orc := [.inl, .br true] })) = some (.bool false, [.br ((n : Int) != (m : Int)) true]) := by kernel_rfl
theorem q30_1 : seeP P 24 5 (X K 60 (.call 30 [ndl z1 n H y d kk, ndl z2 m H' y' d' kk', .func (.func 14) [] []] { T0 with orc := [.inl, .br false, .loop (.exit 0) (h30 n m z1 z2 H H' y y' d d' kk kk' q .any) [] 24] })) = some (.bool true, [.loop (lpOf Tryz.f30 0) (headOf 32 [(0, ndl z1 n H y d kk), (1, ndl z2 m H' y' d' kk'), (2, .func (.func 14) [] []), (6, .bool false), (10, ndl z1 n H y d kk), (11, .int .i64 n), (12, ndl z2 m H' y' d' kk'), (13, .int .i64 m), (14, .sb ((n : Int) != (m : Int))), (15, ndl z1 n H y d kk), (16, .int .i64 n), (17, .int .i64 0)]) [] [] 24 [] none (.exit 0) (h30 n m z1 z2 H H' y y' d d' kk kk' q .any) [] 24, .br ((n : Int) != (m : Int)) false]) := by kernel_rfl
theorem q30_2 : seeP P 24 5 (X K 60 (.call 30 [ndl z1 n H y d kk, ndl z2 m H' y' d' kk', .func (.func 14) [] []] { T0 with orc := [.inl, .br false, .loop .ret (h30 n m z1 z2 H H' y y' d d' kk kk' q .any) [] 24] })) = some (.bool false, [.loop (lpOf Tryz.f30 0) (headOf 32 [(0, ndl z1 n H y d kk), (1, ndl z2 m H' y' d' kk'), (2, .func (.func 14) [] []), (6, .bool false), (10, ndl z1 n H y d kk), (11, .int .i64 n), (12, ndl z2 m H' y' d' kk'), (13, .int .i64 m), (14, .sb ((n : Int) != (m : Int))), (15, ndl z1 n H y d kk), (16, .int .i64 n), (17, .int .i64 0)]) [] [] 24 [] none .ret (h30 n m z1 z2 H H' y y' d d' kk kk' q .any) [] 24, .br ((n : Int) != (m : Int)) false]) := by kernel_rfl
theorem s30 : Wk (headOf 32 [(0, ndl z1 n H y d kk), (1, ndl z2 m H' y' d' kk'), (2, .func (.func 14) [] []), (6, .bool false), (10, ndl z1 n H y d kk), (11, .int .i64 n), (12, ndl z2 m H' y' d' kk'), (13, .int .i64 m), (14, .sb ((n : Int) != (m : Int))), (15, ndl z1 n H y d kk), (16, .int .i64 n), (17, .int .i64 0)]) (h30 n m z1 z2 H H' y y' d d' kk kk' q (.int .i64 0)) := wkK [0, 1, 2, 6, 15, 16, 17] (by kernel_rfl)
theorem p30 (hn : n ≤ 9223372036854775807) (hq : ∀ i, i < n → i < m → Pure P 24 [] 14 [node (H i) (y i) (d i) (kk i), node (H' i) (y' i) (d' i) (kk' i)] (.sb (q i))) : Pure P 24 [] 30 [ndl z1 n H y d kk, ndl z2 m H' y' d' kk', .func (.func 14) [] []] (.sb (decide (n = m) && allF q 0 n)) := by
  by_cases hm : n = m
  · have hl := (l30 n m z1 z2 H H' y y' d d' kk kk' q hm.symm hn hq n 0 (by omega)).start (s30 n m z1 z2 H H' y y' d d' kk kk' q) (Sm.refl _) rfl
    have hb : ((n : Int) != (m : Int)) = false := bne_int.2 hm
    by_cases ha : allF q 0 n = true
    · simp only [ha, if_true] at hl
      rw [show (decide (n = m) && allF q 0 n) = true by rw [ha]; simp [hm]]
      exact (Pure.see ok (q30_1 n m z1 z2 H H' y y' d d' kk kk' q) ⟨hl, hb, trivial⟩).wk (AV.le_sb true)
    · have ha : allF q 0 n = false := by simpa using ha
      simp only [ha, Bool.false_eq_true, if_false] at hl
      rw [show (decide (n = m) && allF q 0 n) = false by rw [ha]; simp]
      exact (Pure.see ok (q30_2 n m z1 z2 H H' y y' d d' kk kk' q) ⟨hl, hb, trivial⟩).wk (AV.le_sb false)
  · have hb : ((n : Int) != (m : Int)) = true := by simp; omega
    simp only [hm, decide_false, Bool.false_and]
    exact (Pure.see ok (q30_0 n m z1 z2 H H' y y' d d' kk kk') ⟨hb, trivial⟩).wk (AV.le_sb false)
end
end
end Go.Proofs.Pa
