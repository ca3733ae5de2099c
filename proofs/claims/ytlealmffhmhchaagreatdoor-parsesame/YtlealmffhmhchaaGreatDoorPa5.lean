/- ParseSame: the law. -/
import Derived.Test.YtlealmffhmhchaaGreatDoorPa4
import Derived.Test.YtlealmffhmhchaaGreatDoorEzA
namespace Go.Proofs.Pa
open Go.Ex Go.RowKit
noncomputable section
section
variable (h g : Hd) (kz gz : Bool) (kn gn : Nat) (kk gk : Nat → List AV) (m1 m2 q1 q2 q3 q4 : Bool)
theorem c5_0 : seeP P 24 5 (X K 60 (.call 5 [node h kz kn kk, node g gz gn gk] { T0 with orc := [.inl, .ret (.sb m1), .br true] })) = some (.bool true, [.br m1 true, .pure 11 [node h kz kn kk] (.sb m1)]) := by kernel_rfl
theorem c5_1 : seeP P 24 5 (X K 60 (.call 5 [node h kz kn kk, node g gz gn gk] { T0 with orc := [.inl, .ret (.sb m1), .br false, .ret (.sb m2), .br true] })) = some (.bool true, [.br m2 true, .pure 11 [node g gz gn gk] (.sb m2), .br m1 false, .pure 11 [node h kz kn kk] (.sb m1)]) := by kernel_rfl
theorem c5_2 : seeP P 24 5 (X K 60 (.call 5 [node h kz kn kk, node g gz gn gk] { T0 with orc := [.inl, .ret (.sb m1), .br false, .ret (.sb m2), .br false, .ret (.sb q1), .ret (.bool true), .ret (.sb q2), .br true, .ret (.sb q3), .br true, .ret (.sb q4)] })) =
  some (.sb q4, [.pure 14 [node h kz kn kk, node h kz kn kk] (.sb q4), .br (q3 == q1) true, .pure 14 [node g gz gn gk, node h kz kn kk] (.sb q3), .br (q2 == q1) true, .pure 14 [node h kz kn kk, node g gz gn gk] (.sb q2), .pure 7 [] (.bool true), .pure 10 [node h kz kn kk, node g gz gn gk] (.sb q1),
    .br m2 false, .pure 11 [node g gz gn gk] (.sb m2), .br m1 false, .pure 11 [node h kz kn kk] (.sb m1)]) := by kernel_rfl
end
/-- **ParseSame answers true of all trees.** -/
theorem same (t u : Tree) (ht : t.fits) (hu : u.fits) {B : Nat} {w0 : World} (hB : 24 ≤ B) (hk : ∀ w, Below B w0 w → B ≤ w.heap.size → PureOk P 24 w.heap.size w 7 [] (.bool true)) : PureOk P 24 B w0 5 [t.v, u.v] (.sb true) := by
  obtain ⟨m1, h1⟩ := p11T t ht
  obtain ⟨m2, h2⟩ := p11T u hu
  cases m1 with
  | true => exact (PureOk.see ok (c5_0 t.h u.h t.kz u.kz t.kn u.kn _ _ true) hB fun w hw hs => oks_al rfl (Nat.le_trans hB hs) (oks_al h1 (Nat.le_trans hB hs) oks_nil)).wk (AV.le_sb true)
  | false =>
    cases m2 with
    | true => exact (PureOk.see ok (c5_1 t.h u.h t.kz u.kz t.kn u.kn _ _ false true) hB fun w hw hs => oks_al rfl (Nat.le_trans hB hs) (oks_al h2 (Nat.le_trans hB hs) (oks_al rfl (Nat.le_trans hB hs) (oks_al h1 (Nat.le_trans hB hs) oks_nil)))).wk (AV.le_sb true)
    | false =>
      refine PureOk.see ok (c5_2 t.h u.h t.kz u.kz t.kn u.kn _ _ false false (t.sameR u) (t.sameP u) (u.sameP t) true) hB fun w hw hs => ?_
      have hs' := Nat.le_trans hB hs
      have e : Pure P 24 [] 14 [t.v, t.v] (.sb true) := by have := p14T t t ht; rwa [sameP_eq, sameR_self] at this
      refine oks_al e hs' (oks_al ?_ hs' (oks_al (p14T u t hu) hs' (oks_al ?_ hs' (oks_al (p14T t u ht) hs' (oks_cons (hk w hw hs) (oks_al (p10T t u ht) hs' (oks_al rfl hs' (oks_al h2 hs' (oks_al rfl hs' (oks_al h1 hs' oks_nil))))))))))
      · show (u.sameP t == t.sameR u) = true
        rw [sameP_eq, sameR_comm u t]; simp
      · show (t.sameP u == t.sameR u) = true
        rw [sameP_eq]; simp
end
end Go.Proofs.Pa
