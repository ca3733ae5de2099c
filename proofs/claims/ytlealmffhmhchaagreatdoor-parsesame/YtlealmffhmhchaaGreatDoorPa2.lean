/- ParseSame: straight functions. Printed by gen2.py. -/
import Derived.Test.YtlealmffhmhchaaGreatDoorPa1
namespace Go.Proofs.Pa
open Go.Ex
noncomputable section
theorem c20_0 (h g : Hd) (kz gz : Bool) (kn gn : Nat) (kk gk : Nat → List AV) : seeP P 24 5 (X K 60 (.call 20 [node h kz kn kk, node g gz gn gk] { T0 with orc := [.inl, .br false] })) = some (.bool false, [.br (h.kind == g.kind) false]) := by kernel_rfl
theorem c20_1 (h g : Hd) (kz gz : Bool) (kn gn : Nat) (kk gk : Nat → List AV) : seeP P 24 5 (X K 60 (.call 20 [node h kz kn kk, node g gz gn gk] { T0 with orc := [.inl, .br true, .br false] })) = some (.bool false, [.br (h.num == g.num) false, .br (h.kind == g.kind) true]) := by kernel_rfl
theorem c20_2 (h g : Hd) (kz gz : Bool) (kn gn : Nat) (kk gk : Nat → List AV) : seeP P 24 5 (X K 60 (.call 20 [node h kz kn kk, node g gz gn gk] { T0 with orc := [.inl, .br true, .br true, .br false] })) = some (.bool false, [.br (neq h.text g.text) false, .br (h.num == g.num) true, .br (h.kind == g.kind) true]) := by kernel_rfl
theorem c20_3 (h g : Hd) (kz gz : Bool) (kn gn : Nat) (kk gk : Nat → List AV) : seeP P 24 5 (X K 60 (.call 20 [node h kz kn kk, node g gz gn gk] { T0 with orc := [.inl, .br true, .br true, .br true, .br false] })) = some (.bool false, [.br (h.rng == g.rng) false, .br (neq h.text g.text) true, .br (h.num == g.num) true, .br (h.kind == g.kind) true]) := by kernel_rfl
theorem c20_4 (h g : Hd) (kz gz : Bool) (kn gn : Nat) (kk gk : Nat → List AV) : seeP P 24 5 (X K 60 (.call 20 [node h kz kn kk, node g gz gn gk] { T0 with orc := [.inl, .br true, .br true, .br true, .br true, .br false] })) = some (.bool false, [.br (h.step == g.step) false, .br (h.rng == g.rng) true, .br (neq h.text g.text) true, .br (h.num == g.num) true, .br (h.kind == g.kind) true]) := by kernel_rfl
theorem c20_5 (h g : Hd) (kz gz : Bool) (kn gn : Nat) (kk gk : Nat → List AV) : seeP P 24 5 (X K 60 (.call 20 [node h kz kn kk, node g gz gn gk] { T0 with orc := [.inl, .br true, .br true, .br true, .br true, .br true, .br false] })) = some (.bool false, [.br (h.off == g.off) false, .br (h.step == g.step) true, .br (h.rng == g.rng) true, .br (neq h.text g.text) true, .br (h.num == g.num) true, .br (h.kind == g.kind) true]) := by kernel_rfl
theorem c20_6 (h g : Hd) (kz gz : Bool) (kn gn : Nat) (kk gk : Nat → List AV) : seeP P 24 5 (X K 60 (.call 20 [node h kz kn kk, node g gz gn gk] { T0 with orc := [.inl, .br true, .br true, .br true, .br true, .br true, .br true, .br false] })) = some (.bool false, [.br (h.at_ == g.at_) false, .br (h.off == g.off) true, .br (h.step == g.step) true, .br (h.rng == g.rng) true, .br (neq h.text g.text) true, .br (h.num == g.num) true, .br (h.kind == g.kind) true]) := by kernel_rfl
theorem c20_7 (h g : Hd) (kz gz : Bool) (kn gn : Nat) (kk gk : Nat → List AV) : seeP P 24 5 (X K 60 (.call 20 [node h kz kn kk, node g gz gn gk] { T0 with orc := [.inl, .br true, .br true, .br true, .br true, .br true, .br true, .br true, .br false] })) = some (.bool false, [.br (h.time == g.time) false, .br (h.at_ == g.at_) true, .br (h.off == g.off) true, .br (h.step == g.step) true, .br (h.rng == g.rng) true, .br (neq h.text g.text) true, .br (h.num == g.num) true, .br (h.kind == g.kind) true]) := by kernel_rfl
theorem c20_8 (h g : Hd) (kz gz : Bool) (kn gn : Nat) (kk gk : Nat → List AV) : seeP P 24 5 (X K 60 (.call 20 [node h kz kn kk, node g gz gn gk] { T0 with orc := [.inl, .br true, .br true, .br true, .br true, .br true, .br true, .br true, .br true, .br false] })) = some (.bool false, [.br (h.op == g.op) false, .br (h.time == g.time) true, .br (h.at_ == g.at_) true, .br (h.off == g.off) true, .br (h.step == g.step) true, .br (h.rng == g.rng) true, .br (neq h.text g.text) true, .br (h.num == g.num) true, .br (h.kind == g.kind) true]) := by kernel_rfl
theorem c20_9 (h g : Hd) (kz gz : Bool) (kn gn : Nat) (kk gk : Nat → List AV) : seeP P 24 5 (X K 60 (.call 20 [node h kz kn kk, node g gz gn gk] { T0 with orc := [.inl, .br true, .br true, .br true, .br true, .br true, .br true, .br true, .br true, .br true, .br false] })) = some (.bool false, [.br (h.bool == g.bool) false, .br (h.op == g.op) true, .br (h.time == g.time) true, .br (h.at_ == g.at_) true, .br (h.off == g.off) true, .br (h.step == g.step) true, .br (h.rng == g.rng) true, .br (neq h.text g.text) true, .br (h.num == g.num) true, .br (h.kind == g.kind) true]) := by kernel_rfl
theorem c20_10 (h g : Hd) (kz gz : Bool) (kn gn : Nat) (kk gk : Nat → List AV) : seeP P 24 5 (X K 60 (.call 20 [node h kz kn kk, node g gz gn gk] { T0 with orc := [.inl, .br true, .br true, .br true, .br true, .br true, .br true, .br true, .br true, .br true, .br true, .br false] })) = some (.bool false, [.br (h.card == g.card) false, .br (h.bool == g.bool) true, .br (h.op == g.op) true, .br (h.time == g.time) true, .br (h.at_ == g.at_) true, .br (h.off == g.off) true, .br (h.step == g.step) true, .br (h.rng == g.rng) true, .br (neq h.text g.text) true, .br (h.num == g.num) true, .br (h.kind == g.kind) true]) := by kernel_rfl
theorem c20_11 (h g : Hd) (kz gz : Bool) (kn gn : Nat) (kk gk : Nat → List AV) : seeP P 24 5 (X K 60 (.call 20 [node h kz kn kk, node g gz gn gk] { T0 with orc := [.inl, .br true, .br true, .br true, .br true, .br true, .br true, .br true, .br true, .br true, .br true, .br true, .br false] })) = some (.bool false, [.br (h.on_ == g.on_) false, .br (h.card == g.card) true, .br (h.bool == g.bool) true, .br (h.op == g.op) true, .br (h.time == g.time) true, .br (h.at_ == g.at_) true, .br (h.off == g.off) true, .br (h.step == g.step) true, .br (h.rng == g.rng) true, .br (neq h.text g.text) true, .br (h.num == g.num) true, .br (h.kind == g.kind) true]) := by kernel_rfl
theorem c20_12 (h g : Hd) (kz gz : Bool) (kn gn : Nat) (kk gk : Nat → List AV) : seeP P 24 5 (X K 60 (.call 20 [node h kz kn kk, node g gz gn gk] { T0 with orc := [.inl, .br true, .br true, .br true, .br true, .br true, .br true, .br true, .br true, .br true, .br true, .br true, .br true] })) = some (.sb (h.gk == g.gk), [.br (h.on_ == g.on_) true, .br (h.card == g.card) true, .br (h.bool == g.bool) true, .br (h.op == g.op) true, .br (h.time == g.time) true, .br (h.at_ == g.at_) true, .br (h.off == g.off) true, .br (h.step == g.step) true, .br (h.rng == g.rng) true, .br (neq h.text g.text) true, .br (h.num == g.num) true, .br (h.kind == g.kind) true]) := by kernel_rfl
theorem p20 (h g : Hd) (kz gz : Bool) (kn gn : Nat) (kk gk : Nat → List AV)  : Pure P 24 [] 20 [node h kz kn kk, node g gz gn gk] (.sb ((h.kind == g.kind) && ((h.num == g.num) && ((neq h.text g.text) && ((h.rng == g.rng) && ((h.step == g.step) && ((h.off == g.off) && ((h.at_ == g.at_) && ((h.time == g.time) && ((h.op == g.op) && ((h.bool == g.bool) && ((h.card == g.card) && ((h.on_ == g.on_) && ((h.gk == g.gk))))))))))))))) := by
  by_cases e0 : (h.kind == g.kind) = true
  rotate_left
  · rw [neqb e0, Bool.false_and]
    exact (Pure.see ok (c20_0 h g kz gz kn gn kk gk) ⟨neqb e0, trivial⟩).wk (AV.le_sb false)
  rw [e0, Bool.true_and]
  by_cases e1 : (h.num == g.num) = true
  rotate_left
  · rw [neqb e1, Bool.false_and]
    exact (Pure.see ok (c20_1 h g kz gz kn gn kk gk) ⟨neqb e1, e0, trivial⟩).wk (AV.le_sb false)
  rw [e1, Bool.true_and]
  by_cases e2 : (neq h.text g.text) = true
  rotate_left
  · rw [neqb e2, Bool.false_and]
    exact (Pure.see ok (c20_2 h g kz gz kn gn kk gk) ⟨neqb e2, e1, e0, trivial⟩).wk (AV.le_sb false)
  rw [e2, Bool.true_and]
  by_cases e3 : (h.rng == g.rng) = true
  rotate_left
  · rw [neqb e3, Bool.false_and]
    exact (Pure.see ok (c20_3 h g kz gz kn gn kk gk) ⟨neqb e3, e2, e1, e0, trivial⟩).wk (AV.le_sb false)
  rw [e3, Bool.true_and]
  by_cases e4 : (h.step == g.step) = true
  rotate_left
  · rw [neqb e4, Bool.false_and]
    exact (Pure.see ok (c20_4 h g kz gz kn gn kk gk) ⟨neqb e4, e3, e2, e1, e0, trivial⟩).wk (AV.le_sb false)
  rw [e4, Bool.true_and]
  by_cases e5 : (h.off == g.off) = true
  rotate_left
  · rw [neqb e5, Bool.false_and]
    exact (Pure.see ok (c20_5 h g kz gz kn gn kk gk) ⟨neqb e5, e4, e3, e2, e1, e0, trivial⟩).wk (AV.le_sb false)
  rw [e5, Bool.true_and]
  by_cases e6 : (h.at_ == g.at_) = true
  rotate_left
  · rw [neqb e6, Bool.false_and]
    exact (Pure.see ok (c20_6 h g kz gz kn gn kk gk) ⟨neqb e6, e5, e4, e3, e2, e1, e0, trivial⟩).wk (AV.le_sb false)
  rw [e6, Bool.true_and]
  by_cases e7 : (h.time == g.time) = true
  rotate_left
  · rw [neqb e7, Bool.false_and]
    exact (Pure.see ok (c20_7 h g kz gz kn gn kk gk) ⟨neqb e7, e6, e5, e4, e3, e2, e1, e0, trivial⟩).wk (AV.le_sb false)
  rw [e7, Bool.true_and]
  by_cases e8 : (h.op == g.op) = true
  rotate_left
  · rw [neqb e8, Bool.false_and]
    exact (Pure.see ok (c20_8 h g kz gz kn gn kk gk) ⟨neqb e8, e7, e6, e5, e4, e3, e2, e1, e0, trivial⟩).wk (AV.le_sb false)
  rw [e8, Bool.true_and]
  by_cases e9 : (h.bool == g.bool) = true
  rotate_left
  · rw [neqb e9, Bool.false_and]
    exact (Pure.see ok (c20_9 h g kz gz kn gn kk gk) ⟨neqb e9, e8, e7, e6, e5, e4, e3, e2, e1, e0, trivial⟩).wk (AV.le_sb false)
  rw [e9, Bool.true_and]
  by_cases e10 : (h.card == g.card) = true
  rotate_left
  · rw [neqb e10, Bool.false_and]
    exact (Pure.see ok (c20_10 h g kz gz kn gn kk gk) ⟨neqb e10, e9, e8, e7, e6, e5, e4, e3, e2, e1, e0, trivial⟩).wk (AV.le_sb false)
  rw [e10, Bool.true_and]
  by_cases e11 : (h.on_ == g.on_) = true
  rotate_left
  · rw [neqb e11, Bool.false_and]
    exact (Pure.see ok (c20_11 h g kz gz kn gn kk gk) ⟨neqb e11, e10, e9, e8, e7, e6, e5, e4, e3, e2, e1, e0, trivial⟩).wk (AV.le_sb false)
  rw [e11, Bool.true_and]
  exact Pure.see ok (c20_12 h g kz gz kn gn kk gk) ⟨e11, e10, e9, e8, e7, e6, e5, e4, e3, e2, e1, e0, trivial⟩
theorem c22_0 (c c' : Int) (o o' : Bool) (z1 z2 z3 z4 : Bool) (n1 n2 n3 n4 : Nat) (f1 f2 f3 f4 : Nat → List Nat) (q r : Bool) : seeP P 24 5 (X K 60 (.call 22 [.agg [.int .u8 c, .sb o, strs z1 n1 f1, strs z2 n2 f2], .agg [.int .u8 c', .sb o', strs z3 n3 f3, strs z4 n4 f4]] { T0 with orc := [.inl, .br false] })) = some (.bool false, [.br (c == c') false]) := by kernel_rfl
theorem c22_1 (c c' : Int) (o o' : Bool) (z1 z2 z3 z4 : Bool) (n1 n2 n3 n4 : Nat) (f1 f2 f3 f4 : Nat → List Nat) (q r : Bool) : seeP P 24 5 (X K 60 (.call 22 [.agg [.int .u8 c, .sb o, strs z1 n1 f1, strs z2 n2 f2], .agg [.int .u8 c', .sb o', strs z3 n3 f3, strs z4 n4 f4]] { T0 with orc := [.inl, .br true, .br false] })) = some (.bool false, [.br (o == o') false, .br (c == c') true]) := by kernel_rfl
theorem c22_2 (c c' : Int) (o o' : Bool) (z1 z2 z3 z4 : Bool) (n1 n2 n3 n4 : Nat) (f1 f2 f3 f4 : Nat → List Nat) (q r : Bool) : seeP P 24 5 (X K 60 (.call 22 [.agg [.int .u8 c, .sb o, strs z1 n1 f1, strs z2 n2 f2], .agg [.int .u8 c', .sb o', strs z3 n3 f3, strs z4 n4 f4]] { T0 with orc := [.inl, .br true, .br true, .ret (.sb q), .br false] })) = some (.bool false, [.br (q) false, .pure 43 [strs z1 n1 f1, strs z3 n3 f3] (.sb q), .br (o == o') true, .br (c == c') true]) := by kernel_rfl
theorem c22_3 (c c' : Int) (o o' : Bool) (z1 z2 z3 z4 : Bool) (n1 n2 n3 n4 : Nat) (f1 f2 f3 f4 : Nat → List Nat) (q r : Bool) : seeP P 24 5 (X K 60 (.call 22 [.agg [.int .u8 c, .sb o, strs z1 n1 f1, strs z2 n2 f2], .agg [.int .u8 c', .sb o', strs z3 n3 f3, strs z4 n4 f4]] { T0 with orc := [.inl, .br true, .br true, .ret (.sb q), .br true, .ret (.sb r)] })) = some (.sb (r), [.pure 43 [strs z2 n2 f2, strs z4 n4 f4] (.sb r), .br (q) true, .pure 43 [strs z1 n1 f1, strs z3 n3 f3] (.sb q), .br (o == o') true, .br (c == c') true]) := by kernel_rfl
theorem p22 (c c' : Int) (o o' : Bool) (z1 z2 z3 z4 : Bool) (n1 n2 n3 n4 : Nat) (f1 f2 f3 f4 : Nat → List Nat) (q r : Bool) (hq : Pure P 24 [] 43 [strs z1 n1 f1, strs z3 n3 f3] (.sb q)) (hr : Pure P 24 [] 43 [strs z2 n2 f2, strs z4 n4 f4] (.sb r)) : Pure P 24 [] 22 [.agg [.int .u8 c, .sb o, strs z1 n1 f1, strs z2 n2 f2], .agg [.int .u8 c', .sb o', strs z3 n3 f3, strs z4 n4 f4]] (.sb ((c == c') && ((o == o') && ((q) && ((r)))))) := by
  by_cases e0 : (c == c') = true
  rotate_left
  · rw [neqb e0, Bool.false_and]
    exact (Pure.see ok (c22_0 c c' o o' z1 z2 z3 z4 n1 n2 n3 n4 f1 f2 f3 f4 q r) ⟨neqb e0, trivial⟩).wk (AV.le_sb false)
  rw [e0, Bool.true_and]
  by_cases e1 : (o == o') = true
  rotate_left
  · rw [neqb e1, Bool.false_and]
    exact (Pure.see ok (c22_1 c c' o o' z1 z2 z3 z4 n1 n2 n3 n4 f1 f2 f3 f4 q r) ⟨neqb e1, e0, trivial⟩).wk (AV.le_sb false)
  rw [e1, Bool.true_and]
  by_cases e2 : (q) = true
  rotate_left
  · rw [neqb e2, Bool.false_and]
    exact (Pure.see ok (c22_2 c c' o o' z1 z2 z3 z4 n1 n2 n3 n4 f1 f2 f3 f4 q r) ⟨neqb e2, hq, e1, e0, trivial⟩).wk (AV.le_sb false)
  rw [e2, Bool.true_and]
  exact Pure.see ok (c22_3 c c' o o' z1 z2 z3 z4 n1 n2 n3 n4 f1 f2 f3 f4 q r) ⟨hr, e2, hq, e1, e0, trivial⟩
theorem c23_0 (c c' : Int) (z1 z2 : Bool) (n1 n2 : Nat) (f1 f2 : Nat → List Nat) (q : Bool) : seeP P 24 5 (X K 60 (.call 23 [.agg [.int .u8 c, strs z1 n1 f1], .agg [.int .u8 c', strs z2 n2 f2]] { T0 with orc := [.inl, .br false] })) = some (.bool false, [.br (c == c') false]) := by kernel_rfl
theorem c23_1 (c c' : Int) (z1 z2 : Bool) (n1 n2 : Nat) (f1 f2 : Nat → List Nat) (q : Bool) : seeP P 24 5 (X K 60 (.call 23 [.agg [.int .u8 c, strs z1 n1 f1], .agg [.int .u8 c', strs z2 n2 f2]] { T0 with orc := [.inl, .br true, .ret (.sb q)] })) = some (.sb (q), [.pure 43 [strs z1 n1 f1, strs z2 n2 f2] (.sb q), .br (c == c') true]) := by kernel_rfl
theorem p23 (c c' : Int) (z1 z2 : Bool) (n1 n2 : Nat) (f1 f2 : Nat → List Nat) (q : Bool) (hq : Pure P 24 [] 43 [strs z1 n1 f1, strs z2 n2 f2] (.sb q)) : Pure P 24 [] 23 [.agg [.int .u8 c, strs z1 n1 f1], .agg [.int .u8 c', strs z2 n2 f2]] (.sb ((c == c') && ((q)))) := by
  by_cases e0 : (c == c') = true
  rotate_left
  · rw [neqb e0, Bool.false_and]
    exact (Pure.see ok (c23_0 c c' z1 z2 n1 n2 f1 f2 q) ⟨neqb e0, trivial⟩).wk (AV.le_sb false)
  rw [e0, Bool.true_and]
  exact Pure.see ok (c23_1 c c' z1 z2 n1 n2 f1 f2 q) ⟨hq, e0, trivial⟩
theorem c10_0 (h g : Hd) (kz gz : Bool) (kn gn : Nat) (kk gk : Nat → List AV) (q1 q2 q3 q4 q5 : Bool) : seeP P 24 5 (X K 60 (.call 10 [node h kz kn kk, node g gz gn gk] { T0 with orc := [.inl, .ret (.sb q1), .br false] })) = some (.bool false, [.br (q1) false, .pure 20 [node h kz kn kk, node g gz gn gk] (.sb q1)]) := by kernel_rfl
theorem c10_1 (h g : Hd) (kz gz : Bool) (kn gn : Nat) (kk gk : Nat → List AV) (q1 q2 q3 q4 q5 : Bool) : seeP P 24 5 (X K 60 (.call 10 [node h kz kn kk, node g gz gn gk] { T0 with orc := [.inl, .ret (.sb q1), .br true, .ret (.sb q2), .br false] })) = some (.bool false, [.br (q2) false, .pure 21 [mats h.mz h.mn h.mk_ h.mf h.mg, mats g.mz g.mn g.mk_ g.mf g.mg] (.sb q2), .br (q1) true, .pure 20 [node h kz kn kk, node g gz gn gk] (.sb q1)]) := by kernel_rfl
theorem c10_2 (h g : Hd) (kz gz : Bool) (kn gn : Nat) (kk gk : Nat → List AV) (q1 q2 q3 q4 q5 : Bool) : seeP P 24 5 (X K 60 (.call 10 [node h kz kn kk, node g gz gn gk] { T0 with orc := [.inl, .ret (.sb q1), .br true, .ret (.sb q2), .br true, .ret (.sb q3), .br false] })) = some (.bool false, [.br (q3) false, .pure 22 [.agg [.int .u8 h.card, .sb h.on_, strs h.lz h.ln h.lf, strs h.iz h.in_ h.if_], .agg [.int .u8 g.card, .sb g.on_, strs g.lz g.ln g.lf, strs g.iz g.in_ g.if_]] (.sb q3), .br (q2) true, .pure 21 [mats h.mz h.mn h.mk_ h.mf h.mg, mats g.mz g.mn g.mk_ g.mf g.mg] (.sb q2), .br (q1) true, .pure 20 [node h kz kn kk, node g gz gn gk] (.sb q1)]) := by kernel_rfl
theorem c10_3 (h g : Hd) (kz gz : Bool) (kn gn : Nat) (kk gk : Nat → List AV) (q1 q2 q3 q4 q5 : Bool) : seeP P 24 5 (X K 60 (.call 10 [node h kz kn kk, node g gz gn gk] { T0 with orc := [.inl, .ret (.sb q1), .br true, .ret (.sb q2), .br true, .ret (.sb q3), .br true, .ret (.sb q4), .br false] })) = some (.bool false, [.br (q4) false, .pure 23 [.agg [.int .u8 h.gk, strs h.gz h.gn h.gf], .agg [.int .u8 g.gk, strs g.gz g.gn g.gf]] (.sb q4), .br (q3) true, .pure 22 [.agg [.int .u8 h.card, .sb h.on_, strs h.lz h.ln h.lf, strs h.iz h.in_ h.if_], .agg [.int .u8 g.card, .sb g.on_, strs g.lz g.ln g.lf, strs g.iz g.in_ g.if_]] (.sb q3), .br (q2) true, .pure 21 [mats h.mz h.mn h.mk_ h.mf h.mg, mats g.mz g.mn g.mk_ g.mf g.mg] (.sb q2), .br (q1) true, .pure 20 [node h kz kn kk, node g gz gn gk] (.sb q1)]) := by kernel_rfl
theorem c10_4 (h g : Hd) (kz gz : Bool) (kn gn : Nat) (kk gk : Nat → List AV) (q1 q2 q3 q4 q5 : Bool) : seeP P 24 5 (X K 60 (.call 10 [node h kz kn kk, node g gz gn gk] { T0 with orc := [.inl, .ret (.sb q1), .br true, .ret (.sb q2), .br true, .ret (.sb q3), .br true, .ret (.sb q4), .br true, .ret (.sb q5)] })) = some (.sb (q5), [.pure 24 [.snap 18 kz kn kk, .snap 18 gz gn gk] (.sb q5), .br (q4) true, .pure 23 [.agg [.int .u8 h.gk, strs h.gz h.gn h.gf], .agg [.int .u8 g.gk, strs g.gz g.gn g.gf]] (.sb q4), .br (q3) true, .pure 22 [.agg [.int .u8 h.card, .sb h.on_, strs h.lz h.ln h.lf, strs h.iz h.in_ h.if_], .agg [.int .u8 g.card, .sb g.on_, strs g.lz g.ln g.lf, strs g.iz g.in_ g.if_]] (.sb q3), .br (q2) true, .pure 21 [mats h.mz h.mn h.mk_ h.mf h.mg, mats g.mz g.mn g.mk_ g.mf g.mg] (.sb q2), .br (q1) true, .pure 20 [node h kz kn kk, node g gz gn gk] (.sb q1)]) := by kernel_rfl
theorem p10 (h g : Hd) (kz gz : Bool) (kn gn : Nat) (kk gk : Nat → List AV) (q1 q2 q3 q4 q5 : Bool) (h1 : Pure P 24 [] 20 [node h kz kn kk, node g gz gn gk] (.sb q1)) (h2 : Pure P 24 [] 21 [mats h.mz h.mn h.mk_ h.mf h.mg, mats g.mz g.mn g.mk_ g.mf g.mg] (.sb q2)) (h3 : Pure P 24 [] 22 [.agg [.int .u8 h.card, .sb h.on_, strs h.lz h.ln h.lf, strs h.iz h.in_ h.if_], .agg [.int .u8 g.card, .sb g.on_, strs g.lz g.ln g.lf, strs g.iz g.in_ g.if_]] (.sb q3)) (h4 : Pure P 24 [] 23 [.agg [.int .u8 h.gk, strs h.gz h.gn h.gf], .agg [.int .u8 g.gk, strs g.gz g.gn g.gf]] (.sb q4)) (h5 : Pure P 24 [] 24 [.snap 18 kz kn kk, .snap 18 gz gn gk] (.sb q5)) : Pure P 24 [] 10 [node h kz kn kk, node g gz gn gk] (.sb ((q1) && ((q2) && ((q3) && ((q4) && ((q5))))))) := by
  by_cases e0 : (q1) = true
  rotate_left
  · rw [neqb e0, Bool.false_and]
    exact (Pure.see ok (c10_0 h g kz gz kn gn kk gk q1 q2 q3 q4 q5) ⟨neqb e0, h1, trivial⟩).wk (AV.le_sb false)
  rw [e0, Bool.true_and]
  by_cases e1 : (q2) = true
  rotate_left
  · rw [neqb e1, Bool.false_and]
    exact (Pure.see ok (c10_1 h g kz gz kn gn kk gk q1 q2 q3 q4 q5) ⟨neqb e1, h2, e0, h1, trivial⟩).wk (AV.le_sb false)
  rw [e1, Bool.true_and]
  by_cases e2 : (q3) = true
  rotate_left
  · rw [neqb e2, Bool.false_and]
    exact (Pure.see ok (c10_2 h g kz gz kn gn kk gk q1 q2 q3 q4 q5) ⟨neqb e2, h3, e1, h2, e0, h1, trivial⟩).wk (AV.le_sb false)
  rw [e2, Bool.true_and]
  by_cases e3 : (q4) = true
  rotate_left
  · rw [neqb e3, Bool.false_and]
    exact (Pure.see ok (c10_3 h g kz gz kn gn kk gk q1 q2 q3 q4 q5) ⟨neqb e3, h4, e2, h3, e1, h2, e0, h1, trivial⟩).wk (AV.le_sb false)
  rw [e3, Bool.true_and]
  exact Pure.see ok (c10_4 h g kz gz kn gn kk gk q1 q2 q3 q4 q5) ⟨h5, e3, h4, e2, h3, e1, h2, e0, h1, trivial⟩
def hc (h : Hd) : AV := .agg [.int .u8 h.kind, .int .u64 h.num, .str h.text, .int .i64 h.rng, .int .i64 h.step, .int .i64 h.off, .int .i64 h.time, .int .u8 h.at_, .int .u8 h.op, .sb h.bool, .sb h.on_, .int .u8 h.card, .int .u8 h.gk]
theorem c45 (h : Hd) (kz : Bool) (kn : Nat) (kk : Nat → List AV) : seeP P 24 5 (X K 60 (.call 45 [node h kz kn kk] { T0 with orc := [.inl] })) = some (hc h, []) := by kernel_rfl
theorem p45 (h : Hd) (kz : Bool) (kn : Nat) (kk : Nat → List AV) : Pure P 24 [] 45 [node h kz kn kk] (hc h) := Pure.see ok (c45 h kz kn kk) trivial
theorem c29_0 (h g : Hd) (kz gz : Bool) (kn gn : Nat) (kk gk : Nat → List AV) (q1 q2 q3 q4 : Bool) : seeP P 24 5 (X K 60 (.call 29 [node h kz kn kk, node g gz gn gk] { T0 with orc := [.inl, .draw [24, 25], .ret (hc h), .ret (hc g), .br false] })) = some (.bool false, [.br ((h.kind == g.kind) && ((h.num == g.num) && ((neq h.text g.text) && ((h.rng == g.rng) && ((h.step == g.step) && ((h.off == g.off) && ((h.time == g.time) && ((h.at_ == g.at_) && ((h.op == g.op) && ((h.bool == g.bool) && ((h.on_ == g.on_) && ((h.card == g.card) && ((h.gk == g.gk) && (true)))))))))))))) false, .pure 45 [node g gz gn gk] (hc g), .pure 45 [node h kz kn kk] (hc h)]) := by kernel_rfl
theorem c29_1 (h g : Hd) (kz gz : Bool) (kn gn : Nat) (kk gk : Nat → List AV) (q1 q2 q3 q4 : Bool) : seeP P 24 5 (X K 60 (.call 29 [node h kz kn kk, node g gz gn gk] { T0 with orc := [.inl, .draw [24, 25], .ret (hc h), .ret (hc g), .br true, .ret (.sb q1), .br false] })) = some (.bool false, [.br (q1) false, .pure 46 [mats h.mz h.mn h.mk_ h.mf h.mg, mats g.mz g.mn g.mk_ g.mf g.mg] (.sb q1), .br ((h.kind == g.kind) && ((h.num == g.num) && ((neq h.text g.text) && ((h.rng == g.rng) && ((h.step == g.step) && ((h.off == g.off) && ((h.time == g.time) && ((h.at_ == g.at_) && ((h.op == g.op) && ((h.bool == g.bool) && ((h.on_ == g.on_) && ((h.card == g.card) && ((h.gk == g.gk) && (true)))))))))))))) true, .pure 45 [node g gz gn gk] (hc g), .pure 45 [node h kz kn kk] (hc h)]) := by kernel_rfl
theorem c29_2 (h g : Hd) (kz gz : Bool) (kn gn : Nat) (kk gk : Nat → List AV) (q1 q2 q3 q4 : Bool) : seeP P 24 5 (X K 60 (.call 29 [node h kz kn kk, node g gz gn gk] { T0 with orc := [.inl, .draw [24, 25], .ret (hc h), .ret (hc g), .br true, .ret (.sb q1), .br true, .ret (.sb q2), .br false] })) = some (.bool false, [.br (q2) false, .pure 47 [strs h.lz h.ln h.lf, strs g.lz g.ln g.lf] (.sb q2), .br (q1) true, .pure 46 [mats h.mz h.mn h.mk_ h.mf h.mg, mats g.mz g.mn g.mk_ g.mf g.mg] (.sb q1), .br ((h.kind == g.kind) && ((h.num == g.num) && ((neq h.text g.text) && ((h.rng == g.rng) && ((h.step == g.step) && ((h.off == g.off) && ((h.time == g.time) && ((h.at_ == g.at_) && ((h.op == g.op) && ((h.bool == g.bool) && ((h.on_ == g.on_) && ((h.card == g.card) && ((h.gk == g.gk) && (true)))))))))))))) true, .pure 45 [node g gz gn gk] (hc g), .pure 45 [node h kz kn kk] (hc h)]) := by kernel_rfl
theorem c29_3 (h g : Hd) (kz gz : Bool) (kn gn : Nat) (kk gk : Nat → List AV) (q1 q2 q3 q4 : Bool) : seeP P 24 5 (X K 60 (.call 29 [node h kz kn kk, node g gz gn gk] { T0 with orc := [.inl, .draw [24, 25], .ret (hc h), .ret (hc g), .br true, .ret (.sb q1), .br true, .ret (.sb q2), .br true, .ret (.sb q3), .br false] })) = some (.bool false, [.br (q3) false, .pure 47 [strs h.iz h.in_ h.if_, strs g.iz g.in_ g.if_] (.sb q3), .br (q2) true, .pure 47 [strs h.lz h.ln h.lf, strs g.lz g.ln g.lf] (.sb q2), .br (q1) true, .pure 46 [mats h.mz h.mn h.mk_ h.mf h.mg, mats g.mz g.mn g.mk_ g.mf g.mg] (.sb q1), .br ((h.kind == g.kind) && ((h.num == g.num) && ((neq h.text g.text) && ((h.rng == g.rng) && ((h.step == g.step) && ((h.off == g.off) && ((h.time == g.time) && ((h.at_ == g.at_) && ((h.op == g.op) && ((h.bool == g.bool) && ((h.on_ == g.on_) && ((h.card == g.card) && ((h.gk == g.gk) && (true)))))))))))))) true, .pure 45 [node g gz gn gk] (hc g), .pure 45 [node h kz kn kk] (hc h)]) := by kernel_rfl
theorem c29_4 (h g : Hd) (kz gz : Bool) (kn gn : Nat) (kk gk : Nat → List AV) (q1 q2 q3 q4 : Bool) : seeP P 24 5 (X K 60 (.call 29 [node h kz kn kk, node g gz gn gk] { T0 with orc := [.inl, .draw [24, 25], .ret (hc h), .ret (hc g), .br true, .ret (.sb q1), .br true, .ret (.sb q2), .br true, .ret (.sb q3), .br true, .ret (.sb q4)] })) = some (.sb (q4), [.pure 47 [strs h.gz h.gn h.gf, strs g.gz g.gn g.gf] (.sb q4), .br (q3) true, .pure 47 [strs h.iz h.in_ h.if_, strs g.iz g.in_ g.if_] (.sb q3), .br (q2) true, .pure 47 [strs h.lz h.ln h.lf, strs g.lz g.ln g.lf] (.sb q2), .br (q1) true, .pure 46 [mats h.mz h.mn h.mk_ h.mf h.mg, mats g.mz g.mn g.mk_ g.mf g.mg] (.sb q1), .br ((h.kind == g.kind) && ((h.num == g.num) && ((neq h.text g.text) && ((h.rng == g.rng) && ((h.step == g.step) && ((h.off == g.off) && ((h.time == g.time) && ((h.at_ == g.at_) && ((h.op == g.op) && ((h.bool == g.bool) && ((h.on_ == g.on_) && ((h.card == g.card) && ((h.gk == g.gk) && (true)))))))))))))) true, .pure 45 [node g gz gn gk] (hc g), .pure 45 [node h kz kn kk] (hc h)]) := by kernel_rfl
theorem p29 (h g : Hd) (kz gz : Bool) (kn gn : Nat) (kk gk : Nat → List AV) (q1 q2 q3 q4 : Bool) (h1 : Pure P 24 [] 46 [mats h.mz h.mn h.mk_ h.mf h.mg, mats g.mz g.mn g.mk_ g.mf g.mg] (.sb q1)) (h2 : Pure P 24 [] 47 [strs h.lz h.ln h.lf, strs g.lz g.ln g.lf] (.sb q2)) (h3 : Pure P 24 [] 47 [strs h.iz h.in_ h.if_, strs g.iz g.in_ g.if_] (.sb q3)) (h4 : Pure P 24 [] 47 [strs h.gz h.gn h.gf, strs g.gz g.gn g.gf] (.sb q4)) : Pure P 24 [] 29 [node h kz kn kk, node g gz gn gk] (.sb (((h.kind == g.kind) && ((h.num == g.num) && ((neq h.text g.text) && ((h.rng == g.rng) && ((h.step == g.step) && ((h.off == g.off) && ((h.time == g.time) && ((h.at_ == g.at_) && ((h.op == g.op) && ((h.bool == g.bool) && ((h.on_ == g.on_) && ((h.card == g.card) && ((h.gk == g.gk) && (true)))))))))))))) && ((q1) && ((q2) && ((q3) && ((q4))))))) := by
  by_cases e0 : ((h.kind == g.kind) && ((h.num == g.num) && ((neq h.text g.text) && ((h.rng == g.rng) && ((h.step == g.step) && ((h.off == g.off) && ((h.time == g.time) && ((h.at_ == g.at_) && ((h.op == g.op) && ((h.bool == g.bool) && ((h.on_ == g.on_) && ((h.card == g.card) && ((h.gk == g.gk) && (true)))))))))))))) = true
  rotate_left
  · rw [neqb e0, Bool.false_and]
    exact (Pure.see ok (c29_0 h g kz gz kn gn kk gk q1 q2 q3 q4) ⟨neqb e0, p45 g gz gn gk, p45 h kz kn kk, trivial⟩).wk (AV.le_sb false)
  rw [e0, Bool.true_and]
  by_cases e1 : (q1) = true
  rotate_left
  · rw [neqb e1, Bool.false_and]
    exact (Pure.see ok (c29_1 h g kz gz kn gn kk gk q1 q2 q3 q4) ⟨neqb e1, h1, e0, p45 g gz gn gk, p45 h kz kn kk, trivial⟩).wk (AV.le_sb false)
  rw [e1, Bool.true_and]
  by_cases e2 : (q2) = true
  rotate_left
  · rw [neqb e2, Bool.false_and]
    exact (Pure.see ok (c29_2 h g kz gz kn gn kk gk q1 q2 q3 q4) ⟨neqb e2, h2, e1, h1, e0, p45 g gz gn gk, p45 h kz kn kk, trivial⟩).wk (AV.le_sb false)
  rw [e2, Bool.true_and]
  by_cases e3 : (q3) = true
  rotate_left
  · rw [neqb e3, Bool.false_and]
    exact (Pure.see ok (c29_3 h g kz gz kn gn kk gk q1 q2 q3 q4) ⟨neqb e3, h3, e2, h2, e1, h1, e0, p45 g gz gn gk, p45 h kz kn kk, trivial⟩).wk (AV.le_sb false)
  rw [e3, Bool.true_and]
  exact Pure.see ok (c29_4 h g kz gz kn gn kk gk q1 q2 q3 q4) ⟨h4, e3, h3, e2, h2, e1, h1, e0, p45 g gz gn gk, p45 h kz kn kk, trivial⟩
theorem c14_0 (h g : Hd) (kz gz : Bool) (kn gn : Nat) (kk gk : Nat → List AV) (q1 q2 : Bool) : seeP P 24 5 (X K 60 (.call 14 [node h kz kn kk, node g gz gn gk] { T0 with orc := [.inl, .ret (.sb q1), .br false] })) = some (.bool false, [.br (q1) false, .pure 29 [node h kz kn kk, node g gz gn gk] (.sb q1)]) := by kernel_rfl
theorem c14_1 (h g : Hd) (kz gz : Bool) (kn gn : Nat) (kk gk : Nat → List AV) (q1 q2 : Bool) : seeP P 24 5 (X K 60 (.call 14 [node h kz kn kk, node g gz gn gk] { T0 with orc := [.inl, .ret (.sb q1), .br true, .ret (.sb q2)] })) = some (.sb (q2), [.pure 30 [.snap 18 kz kn kk, .snap 18 gz gn gk, .func (.func 14) [] []] (.sb q2), .br (q1) true, .pure 29 [node h kz kn kk, node g gz gn gk] (.sb q1)]) := by kernel_rfl
theorem p14 (h g : Hd) (kz gz : Bool) (kn gn : Nat) (kk gk : Nat → List AV) (q1 q2 : Bool) (h1 : Pure P 24 [] 29 [node h kz kn kk, node g gz gn gk] (.sb q1)) (h2 : Pure P 24 [] 30 [.snap 18 kz kn kk, .snap 18 gz gn gk, .func (.func 14) [] []] (.sb q2)) : Pure P 24 [] 14 [node h kz kn kk, node g gz gn gk] (.sb ((q1) && ((q2)))) := by
  by_cases e0 : (q1) = true
  rotate_left
  · rw [neqb e0, Bool.false_and]
    exact (Pure.see ok (c14_0 h g kz gz kn gn kk gk q1 q2) ⟨neqb e0, h1, trivial⟩).wk (AV.le_sb false)
  rw [e0, Bool.true_and]
  exact Pure.see ok (c14_1 h g kz gz kn gn kk gk q1 q2) ⟨h2, e0, h1, trivial⟩
end
end Go.Proofs.Pa
