/- ParseSame: an argument that reads as a node is a tree. -/
import Derived.Test.YtlealmffhmhchaaGreatDoorPaR
import Derived.Test.YtlealmffhmhchaaGreatDoorPa4
namespace Go.Proofs.Pa
open Go.Ex Go.RowKit
noncomputable section
theorem z33 : Tryz.prog.cellsOf 33 = 1 := by kernel_rfl
theorem z35 : Tryz.prog.cellsOf 35 = 1 := by kernel_rfl
theorem z9 : Tryz.prog.cellsOf 9 = 1 := by kernel_rfl
theorem z36 : Tryz.prog.cellsOf 36 = 1 := by kernel_rfl
theorem z2 : Tryz.prog.cellsOf 2 = 1 := by kernel_rfl
theorem z37 : Tryz.prog.cellsOf 37 = 1 := by kernel_rfl
theorem z38 : Tryz.prog.cellsOf 38 = 1 := by kernel_rfl
theorem z4 : Tryz.prog.cellsOf 4 = 1 := by kernel_rfl
theorem z5 : Tryz.prog.cellsOf 5 = 1 := by kernel_rfl
theorem z28 : Tryz.prog.cellsOf 28 = 1 := by kernel_rfl
theorem z40 : Tryz.prog.cellsOf 40 = 4 := by kernel_rfl
theorem z42 : Tryz.prog.cellsOf 42 = 2 := by kernel_rfl
theorem z43 : Tryz.prog.cellsOf 43 = 1 := by kernel_rfl
theorem z45 : Tryz.prog.cellsOf 45 = 18 := by kernel_rfl
theorem z119 : Tryz.prog.cellsOf 119 = 3 := by kernel_rfl
section
variable {H : Type} {enc' : TypeId × Value → H} {W : World} {held : Bool} {spare : Nat → Bool} {fuel : Nat} {t : TypeId} {cs : List Value} {x : DataW H × List MemPlace}
theorem rd_strs (h : DataW.trod enc' Tryz.prog W 0 spare held fuel 28 cs = some x) : ∃ z n f, γs (Rd W) [strs z n f] cs ∧ n ≤ L := by
  obtain ⟨z, n, D, h1, h2, _⟩ := rd_slice (fun l : List Nat => [AV.str l]) (fun _ => True) (n := 1) (by omega) Tryz.underlying28 z9
    (fun m _ cs' y hy => by obtain ⟨l, hl⟩ := rd_str Tryz.underlying9 hy; exact ⟨l, hl, trivial⟩) h
  exact ⟨z, n, D, h1, h2⟩
theorem len_succ {l : List Value} {n : Nat} (h : l.length = n + 1) : ∃ a r, l = a :: r ∧ r.length = n := by
  cases l with
  | nil => simp at h
  | cons a r => exact ⟨a, r, rfl, by simpa using h⟩
theorem rd_mat {m : Nat} {cs' : List Value} {y : DataW H × List MemPlace} (h : DataW.trod enc' Tryz.prog W 0 spare held m 119 cs' = some y) : ∃ d : Int × List Nat × List Nat, γs (Rd W) [.int .u8 d.1, .str d.2.1, .str d.2.2] cs' := by
  obtain ⟨n, _, hl, fld⟩ := rd_fields Tryz.underlying119 h
  rw [z119] at hl
  obtain ⟨c0, r0, rfl, hl1⟩ := len_succ hl
  obtain ⟨c1, r1, rfl, hl2⟩ := len_succ hl1
  obtain ⟨c2, r2, rfl, hl3⟩ := len_succ hl2
  obtain rfl := List.length_eq_zero_iff.1 hl3
  obtain ⟨_, f0⟩ := fld 0 ⟨ "Kind", 5, 0, false, "", "", 0⟩ rfl
  obtain ⟨_, f1⟩ := fld 1 ⟨ "Name", 9, 1, false, "", "", 8⟩ rfl
  obtain ⟨_, f2⟩ := fld 2 ⟨ "Value", 9, 2, false, "", "", 24⟩ rfl
  simp only [z5, z9, List.drop, List.take] at f0 f1 f2
  obtain ⟨k, g0⟩ := rd_int Tryz.underlying5 f0
  obtain ⟨s, g1'⟩ := rd_str Tryz.underlying9 f1
  obtain ⟨u, g2⟩ := rd_str Tryz.underlying9 f2
  exact ⟨(k, s, u), gcons (g1 g0) (gcons (g1 g1') (gcons (g1 g2) gnil))⟩
theorem rd_mats (h : DataW.trod enc' Tryz.prog W 0 spare held fuel 36 cs = some x) : ∃ z n k f g, γs (Rd W) [mats z n k f g] cs ∧ n ≤ L := by
  obtain ⟨z, n, D, h1, h2, _⟩ := rd_slice (fun d : Int × List Nat × List Nat => [AV.int .u8 d.1, .str d.2.1, .str d.2.2]) (fun _ => True) (n := 3) (by omega) Tryz.underlying36 z119
    (fun m _ cs' y hy => by obtain ⟨d, hd⟩ := rd_mat hy; exact ⟨d, hd, trivial⟩) h
  exact ⟨z, n, fun i => (D i).1, fun i => (D i).2.1, fun i => (D i).2.2, h1, h2⟩
theorem rd_match (h : DataW.trod enc' Tryz.prog W 0 spare held fuel 40 cs = some x) : ∃ c o z n f z' n' f', γs (Rd W) [.int .u8 c, .sb o, strs z n f, strs z' n' f'] cs ∧ n ≤ L ∧ n' ≤ L := by
  obtain ⟨m, _, hl, fld⟩ := rd_fields Tryz.underlying40 h
  rw [z40] at hl
  obtain ⟨c0, r0, rfl, hl1⟩ := len_succ hl
  obtain ⟨c1, r1, rfl, hl2⟩ := len_succ hl1
  obtain ⟨c2, r2, rfl, hl3⟩ := len_succ hl2
  obtain ⟨c3, r3, rfl, hl4⟩ := len_succ hl3
  obtain rfl := List.length_eq_zero_iff.1 hl4
  obtain ⟨_, f0⟩ := fld 0 ⟨ "Card", 5, 0, false, "", "", 0⟩ rfl
  obtain ⟨_, f1⟩ := fld 1 ⟨ "On", 4, 1, false, "", "", 1⟩ rfl
  obtain ⟨_, f2⟩ := fld 2 ⟨ "Labels", 28, 2, false, "", "", 8⟩ rfl
  obtain ⟨_, f3⟩ := fld 3 ⟨ "Include", 28, 3, false, "", "", 32⟩ rfl
  simp only [z5, z4, z28, List.drop, List.take] at f0 f1 f2 f3
  obtain ⟨c, g0⟩ := rd_int Tryz.underlying5 f0
  obtain ⟨o, g1'⟩ := rd_bool Tryz.underlying4 f1
  obtain ⟨z, n, f, g2, hn⟩ := rd_strs f2
  obtain ⟨z', n', f', g3, hn'⟩ := rd_strs f3
  exact ⟨c, o, z, n, f, z', n', f', gcons (g1 g0) (gcons (g1 g1') (gcons (g1 g2) (gcons (g1 g3) gnil))), hn, hn'⟩
theorem rd_group (h : DataW.trod enc' Tryz.prog W 0 spare held fuel 42 cs = some x) : ∃ c z n f, γs (Rd W) [.int .u8 c, strs z n f] cs ∧ n ≤ L := by
  obtain ⟨m, _, hl, fld⟩ := rd_fields Tryz.underlying42 h
  rw [z42] at hl
  obtain ⟨c0, r0, rfl, hl1⟩ := len_succ hl
  obtain ⟨c1, r1, rfl, hl2⟩ := len_succ hl1
  obtain rfl := List.length_eq_zero_iff.1 hl2
  obtain ⟨_, f0⟩ := fld 0 ⟨ "Kind", 5, 0, false, "", "", 0⟩ rfl
  obtain ⟨_, f1⟩ := fld 1 ⟨ "Labels", 28, 1, false, "", "", 8⟩ rfl
  simp only [z5, z28, List.drop, List.take] at f0 f1
  obtain ⟨c, g0⟩ := rd_int Tryz.underlying5 f0
  obtain ⟨z, n, f, g2, hn⟩ := rd_strs f1
  exact ⟨c, z, n, f, gcons (g1 g0) (gcons (g1 g2) gnil), hn⟩
theorem gapp {ε : Env} : ∀ {l m : List AV} {xs ys : List Value}, γs ε l xs → γs ε m ys → γs ε (l ++ m) (xs ++ ys)
  | [], m, xs, ys, h, h' => by
    rw [γs_nil] at h; subst h; exact h'
  | v :: l, m, xs, ys, h, h' => by
    obtain ⟨x, zs, h1, h2, rfl⟩ := γs_cons.1 h
    exact gcons h1 (gapp h2 h')
instance : Inhabited Tree := ⟨.nil⟩
/-- **What reads as a node is a tree.** -/
theorem rd_node : ∀ (fuel : Nat) (cs : List Value) (x : DataW H × List MemPlace), DataW.trod enc' Tryz.prog W 0 spare held fuel 45 cs = some x → ∃ t : Tree, γs (Rd W) (enc t) cs ∧ t.fits := by
  intro fuel
  induction fuel using Nat.strongRecOn with
  | ind fuel ih =>
    intro cs x h
    obtain ⟨m, rfl, hl, fld⟩ := rd_fields Tryz.underlying45 h
    rw [z45] at hl
    obtain ⟨c0, r0, rfl, hl1⟩ := len_succ hl
    obtain ⟨c1, r1, rfl, hl2⟩ := len_succ hl1
    obtain ⟨c2, r2, rfl, hl3⟩ := len_succ hl2
    obtain ⟨c3, r3, rfl, hl4⟩ := len_succ hl3
    obtain ⟨c4, r4, rfl, hl5⟩ := len_succ hl4
    obtain ⟨c5, r5, rfl, hl6⟩ := len_succ hl5
    obtain ⟨c6, r6, rfl, hl7⟩ := len_succ hl6
    obtain ⟨c7, r7, rfl, hl8⟩ := len_succ hl7
    obtain ⟨c8, r8, rfl, hl9⟩ := len_succ hl8
    obtain ⟨c9, r9, rfl, hl10⟩ := len_succ hl9
    obtain ⟨c10, r10, rfl, hl11⟩ := len_succ hl10
    obtain ⟨c11, r11, rfl, hl12⟩ := len_succ hl11
    obtain ⟨c12, r12, rfl, hl13⟩ := len_succ hl12
    obtain ⟨c13, r13, rfl, hl14⟩ := len_succ hl13
    obtain ⟨c14, r14, rfl, hl15⟩ := len_succ hl14
    obtain ⟨c15, r15, rfl, hl16⟩ := len_succ hl15
    obtain ⟨c16, r16, rfl, hl17⟩ := len_succ hl16
    obtain ⟨c17, r17, rfl, hl18⟩ := len_succ hl17
    obtain rfl := List.length_eq_zero_iff.1 hl18
    obtain ⟨_, f0⟩ := fld 0 ⟨ "Kind", 33, 0, false, "", "", 0⟩ rfl
    obtain ⟨_, f1⟩ := fld 1 ⟨ "Num", 35, 1, false, "", "", 8⟩ rfl
    obtain ⟨_, f2⟩ := fld 2 ⟨ "Text", 9, 2, false, "", "", 16⟩ rfl
    obtain ⟨_, f3⟩ := fld 3 ⟨ "Matchers", 36, 3, false, "", "", 32⟩ rfl
    obtain ⟨_, f4⟩ := fld 4 ⟨ "Range", 2, 4, false, "", "", 56⟩ rfl
    obtain ⟨_, f5⟩ := fld 5 ⟨ "Step", 2, 5, false, "", "", 64⟩ rfl
    obtain ⟨_, f6⟩ := fld 6 ⟨ "Offset", 2, 6, false, "", "", 72⟩ rfl
    obtain ⟨_, f7⟩ := fld 7 ⟨ "At", 37, 7, false, "", "", 80⟩ rfl
    obtain ⟨_, f8⟩ := fld 8 ⟨ "Time", 2, 8, false, "", "", 88⟩ rfl
    obtain ⟨_, f9⟩ := fld 9 ⟨ "Op", 38, 9, false, "", "", 96⟩ rfl
    obtain ⟨_, f10⟩ := fld 10 ⟨ "Bool", 4, 10, false, "", "", 97⟩ rfl
    obtain ⟨_, f11⟩ := fld 11 ⟨ "Match", 40, 11, false, "", "", 104⟩ rfl
    obtain ⟨_, f12⟩ := fld 12 ⟨ "Group", 42, 15, false, "", "", 160⟩ rfl
    obtain ⟨_, f13⟩ := fld 13 ⟨ "Kids", 43, 17, false, "", "", 192⟩ rfl
    simp only [z33, z35, z9, z36, z2, z37, z38, z4, z40, z42, z43, List.drop, List.take] at f0 f1 f2 f3 f4 f5 f6 f7 f8 f9 f10 f11 f12 f13
    obtain ⟨v0, g0'⟩ := rd_int Tryz.underlying33 f0
    obtain ⟨v1, g1'⟩ := rd_int Tryz.underlying35 f1
    obtain ⟨v2, g2'⟩ := rd_str Tryz.underlying9 f2
    obtain ⟨v4, g4'⟩ := rd_int Tryz.underlying2 f4
    obtain ⟨v5, g5'⟩ := rd_int Tryz.underlying2 f5
    obtain ⟨v6, g6'⟩ := rd_int Tryz.underlying2 f6
    obtain ⟨v7, g7'⟩ := rd_int Tryz.underlying37 f7
    obtain ⟨v8, g8'⟩ := rd_int Tryz.underlying2 f8
    obtain ⟨v9, g9'⟩ := rd_int Tryz.underlying38 f9
    obtain ⟨v10, g10'⟩ := rd_bool Tryz.underlying4 f10
    obtain ⟨mz, mn, mk_, mf, mg, g3', hmn⟩ := rd_mats f3
    obtain ⟨card, on_, lz, ln, lf, iz, in_, if_, g11', hln, hin⟩ := rd_match f11
    obtain ⟨gk, gz, gn, gf, g12', hgn⟩ := rd_group f12
    obtain ⟨kz, kn, kids, g13', hkn, hk⟩ := rd_slice enc Tree.fits (n := 18) (by omega) Tryz.underlying43 z45 (fun m' hm cs' y hy => ih m' (by omega) cs' y hy) f13
    refine ⟨.mk ⟨v0, v1, v2, mz, mn, mk_, mf, mg, v4, v5, v6, v7, v8, v9, v10, card, on_, lz, ln, lf, iz, in_, if_, gk, gz, gn, gf⟩ kz kn kids, ?_, ⟨⟨hmn, hln, hin, hgn⟩, hkn, hk⟩⟩
    exact gapp g0' (gapp g1' (gapp g2' (gapp g3' (gapp g4' (gapp g5' (gapp g6' (gapp g7' (gapp g8' (gapp g9' (gapp g10' (gapp g11' (gapp g12' g13'))))))))))))
end
end
end Go.Proofs.Pa
