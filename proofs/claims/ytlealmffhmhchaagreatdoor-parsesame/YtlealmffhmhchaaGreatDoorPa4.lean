/- ParseSame: trees. -/
import Derived.Test.YtlealmffhmhchaaGreatDoorPa3
namespace Go.Proofs.Pa
open Go.Ex
noncomputable section
def L : Nat := 9223372036854775807
def Hd.fits (h : Hd) : Prop := h.mn ≤ L ∧ h.ln ≤ L ∧ h.in_ ≤ L ∧ h.gn ≤ L
def Tree.fits : Tree → Prop
  | .nil => True
  | .mk h _ kn kids => h.fits ∧ kn ≤ L ∧ ∀ i, i < kn → (kids i).fits
theorem fits_at {t : Tree} (h : t.fits) : t.h.fits ∧ t.kn ≤ L ∧ ∀ i, i < t.kn → (t.kids i).fits := by
  cases t with
  | nil => exact ⟨⟨Nat.zero_le _, Nat.zero_le _, Nat.zero_le _, Nat.zero_le _⟩, Nat.zero_le _, fun i hi => absurd hi (Nat.not_lt_zero i)⟩
  | mk => exact h
def eqS (n m : Nat) (f g : Nat → List Nat) : Bool := decide (n = m) && allF (fun i => neq (f i) (g i)) 0 n
def eqM (n m : Nat) (k k' : Nat → Int) (f f' g g' : Nat → List Nat) : Bool := decide (n = m) && allF (fun i => k i == k' i && (neq (f i) (g i) && (neq (f' i) (g' i) && true))) 0 n
def q20 (h g : Hd) : Bool := h.kind == g.kind && (h.num == g.num && (neq h.text g.text && (h.rng == g.rng && (h.step == g.step && (h.off == g.off && (h.at_ == g.at_ && (h.time == g.time && (h.op == g.op && (h.bool == g.bool && (h.card == g.card && (h.on_ == g.on_ && h.gk == g.gk)))))))))))
def q22 (h g : Hd) : Bool := h.card == g.card && (h.on_ == g.on_ && (eqS h.ln g.ln h.lf g.lf && eqS h.in_ g.in_ h.if_ g.if_))
def q23 (h g : Hd) : Bool := h.gk == g.gk && eqS h.gn g.gn h.gf g.gf
def qM (h g : Hd) : Bool := eqM h.mn g.mn h.mk_ g.mk_ h.mf h.mg g.mf g.mg
def q29 (h g : Hd) : Bool := h.kind == g.kind && (h.num == g.num && (neq h.text g.text && (h.rng == g.rng && (h.step == g.step && (h.off == g.off && (h.time == g.time && (h.at_ == g.at_ && (h.op == g.op && (h.bool == g.bool && (h.on_ == g.on_ && (h.card == g.card && (h.gk == g.gk && true))))))))))))
def qA (h g : Hd) : Bool := q29 h g && (qM h g && (eqS h.ln g.ln h.lf g.lf && (eqS h.in_ g.in_ h.if_ g.if_ && eqS h.gn g.gn h.gf g.gf)))
/-- As the document's SameNode holds them against each other. -/
def Tree.sameR : Tree → Tree → Bool
  | .nil, u => q20 .zero u.h && (qM .zero u.h && (q22 .zero u.h && (q23 .zero u.h && (decide (0 = u.kn) && true))))
  | .mk h _ kn kids, u => q20 h u.h && (qM h u.h && (q22 h u.h && (q23 h u.h && (decide (kn = u.kn) && allF (fun i => (kids i).sameR (u.kids i)) 0 kn))))
theorem sameR_eq (t u : Tree) : t.sameR u = (q20 t.h u.h && (qM t.h u.h && (q22 t.h u.h && (q23 t.h u.h && (decide (t.kn = u.kn) && allF (fun i => (t.kids i).sameR (u.kids i)) 0 t.kn))))) := by cases t <;> rfl
/-- As parse.Same does. -/
def Tree.sameP : Tree → Tree → Bool
  | .nil, u => qA .zero u.h && (decide (0 = u.kn) && true)
  | .mk h _ kn kids, u => qA h u.h && (decide (kn = u.kn) && allF (fun i => (kids i).sameP (u.kids i)) 0 kn)
theorem sameP_at (t u : Tree) : t.sameP u = (qA t.h u.h && (decide (t.kn = u.kn) && allF (fun i => (t.kids i).sameP (u.kids i)) 0 t.kn)) := by cases t <;> rfl
noncomputable abbrev Tree.v (t : Tree) : AV := node t.h t.kz t.kn t.inn
theorem v_eq (t : Tree) : t.v = node t.h t.kz t.kn (fun i => cells (t.kH i) (t.kZ i) (t.kN i) (t.kK i)) := by
  show node _ _ _ _ = _
  rw [inn_eq]
theorem kid_eq {t : Tree} {i : Nat} (h : i < t.kn) : node (t.kH i) (t.kZ i) (t.kN i) (t.kK i) = (t.kids i).v := by
  cases t with
  | nil => exact absurd h (Nat.not_lt_zero i)
  | mk => rfl
theorem kids_eq (t : Tree) : AV.snap 18 t.kz t.kn t.inn = ndl t.kz t.kn t.kH t.kZ t.kN t.kK := by
  show _ = AV.snap 18 _ _ _
  rw [inn_eq]
theorem tree_ind {p : Tree → Prop} (h : ∀ t : Tree, (∀ i, i < t.kn → p (t.kids i)) → p t) : ∀ t, p t
  | .nil => h .nil fun i hi => absurd hi (Nat.not_lt_zero i)
  | .mk hd kz kn kids => h (.mk hd kz kn kids) fun i _ => tree_ind h (kids i)
theorem p25T (t : Tree) : t.fits → ∀ w : Int, ∃ w', Pure P 24 [] 25 [t.v, .int .i64 w] (.int .i64 w') := by
  induction t using tree_ind with
  | h t ih =>
    intro hf w
    obtain ⟨⟨hm, _⟩, hn, hk⟩ := fits_at hf
    rw [v_eq]
    exact p25 t.h t.kz t.kn t.kH t.kZ t.kN t.kK hm hn (fun i hi w => by rw [kid_eq hi]; exact ih i hi (hk i hi) w) w
theorem p11T (t : Tree) (hf : t.fits) : ∃ b, Pure P 24 [] 11 [t.v] (.sb b) := by
  obtain ⟨w, hw⟩ := p25T t hf 0
  exact ⟨_, Pure.see ok (c11 t.h t.kz t.kn _ w) ⟨hw, trivial⟩⟩
theorem p10T (t : Tree) : ∀ u : Tree, t.fits → Pure P 24 [] 10 [t.v, u.v] (.sb (t.sameR u)) := by
  induction t using tree_ind with
  | h t ih =>
    intro u hf
    obtain ⟨⟨hm, hl, hi, hg⟩, hn, hk⟩ := fits_at hf
    have h5 := p24 t.kn u.kn t.kz u.kz t.kH u.kH t.kZ u.kZ t.kN u.kN t.kK u.kK (fun i => (t.kids i).sameR (u.kids i)) hn (fun i hi hj => by rw [kid_eq hi, kid_eq hj]; exact ih i hi (u.kids i) (hk i hi))
    rw [← kids_eq u, ← kids_eq t] at h5
    rw [sameR_eq]
    exact p10 t.h u.h t.kz u.kz t.kn u.kn _ _ _ _ _ _ _ (p20 t.h u.h t.kz u.kz t.kn u.kn _ _) (p21 t.h.mn u.h.mn t.h.mz u.h.mz t.h.mk_ u.h.mk_ t.h.mf t.h.mg u.h.mf u.h.mg hm)
      (p22 t.h.card u.h.card t.h.on_ u.h.on_ t.h.lz t.h.iz u.h.lz u.h.iz t.h.ln t.h.in_ u.h.ln u.h.in_ t.h.lf t.h.if_ u.h.lf u.h.if_ _ _ (p43 _ _ _ _ _ _ hl) (p43 _ _ _ _ _ _ hi))
      (p23 t.h.gk u.h.gk t.h.gz u.h.gz t.h.gn u.h.gn t.h.gf u.h.gf _ (p43 _ _ _ _ _ _ hg)) h5
theorem p14T (t : Tree) : ∀ u : Tree, t.fits → Pure P 24 [] 14 [t.v, u.v] (.sb (t.sameP u)) := by
  induction t using tree_ind with
  | h t ih =>
    intro u hf
    obtain ⟨⟨hm, hl, hi, hg⟩, hn, hk⟩ := fits_at hf
    have h5 := p30 t.kn u.kn t.kz u.kz t.kH u.kH t.kZ u.kZ t.kN u.kN t.kK u.kK (fun i => (t.kids i).sameP (u.kids i)) hn (fun i hi hj => by rw [kid_eq hi, kid_eq hj]; exact ih i hi (u.kids i) (hk i hi))
    rw [← kids_eq u, ← kids_eq t] at h5
    rw [sameP_at]
    exact p14 t.h u.h t.kz u.kz t.kn u.kn _ _ _ _ (p29 t.h u.h t.kz u.kz t.kn u.kn _ _ _ _ _ _ (p46 t.h.mn u.h.mn t.h.mz u.h.mz t.h.mk_ u.h.mk_ t.h.mf t.h.mg u.h.mf u.h.mg hm) (p47 _ _ _ _ _ _ hl) (p47 _ _ _ _ _ _ hi) (p47 _ _ _ _ _ _ hg)) h5
/-! ### Both are the same -/
theorem neq_iff : ∀ {a b : List Nat}, neq a b = true ↔ a = b
  | [], [] => by simp [neq]
  | [], _ :: _ => by simp [neq]
  | _ :: _, [] => by simp [neq]
  | x :: a, y :: b => by simp [neq, neq_iff (a := a) (b := b)]
theorem neq_comm (a b : List Nat) : neq a b = neq b a := by
  rw [Bool.eq_iff_iff, neq_iff, neq_iff]; exact eq_comm
theorem neq_self (a : List Nat) : neq a a = true := neq_iff.2 rfl
theorem beq_c {α : Type} [BEq α] [LawfulBEq α] (a b : α) : (a == b) = (b == a) := by
  rw [Bool.eq_iff_iff, beq_iff_eq, beq_iff_eq]; exact eq_comm
theorem dec_c (n m : Nat) : decide (n = m) = decide (m = n) := by simp [eq_comm]
theorem eqS_comm (n m : Nat) (f g : Nat → List Nat) : eqS n m f g = eqS m n g f := by
  unfold eqS
  by_cases h : n = m
  · subst h; simp only [decide_true, Bool.true_and]; exact allF_congr fun i => neq_comm _ _
  · rw [dec_c m n]; simp [h]
theorem eqS_self (n : Nat) (f : Nat → List Nat) : eqS n n f f = true := by
  simp only [eqS, decide_true, Bool.true_and, allF_iff, neq_self, implies_true]
theorem qM_comm (h g : Hd) : qM h g = qM g h := by
  unfold qM eqM
  by_cases e : h.mn = g.mn
  · simp only [e, decide_true, Bool.true_and]
    refine allF_congr fun i => ?_
    rw [beq_c (h.mk_ i), neq_comm (h.mf i), neq_comm (h.mg i)]
  · rw [dec_c g.mn h.mn]; simp [e]
theorem qM_self (h : Hd) : qM h h = true := by
  simp [qM, eqM, allF_iff, neq_self]
theorem q20_comm (h g : Hd) : q20 h g = q20 g h := by
  unfold q20
  rw [beq_c h.kind, beq_c h.num, neq_comm h.text, beq_c h.rng, beq_c h.step, beq_c h.off, beq_c h.at_, beq_c h.time, beq_c h.op, beq_c h.bool, beq_c h.card, beq_c h.on_, beq_c h.gk]
theorem q22_comm (h g : Hd) : q22 h g = q22 g h := by
  unfold q22
  rw [beq_c h.card, beq_c h.on_, eqS_comm h.ln, eqS_comm h.in_]
theorem q23_comm (h g : Hd) : q23 h g = q23 g h := by
  unfold q23
  rw [beq_c h.gk, eqS_comm h.gn]
theorem qA_eq (h g : Hd) : qA h g = (q20 h g && (qM h g && (q22 h g && q23 h g))) := by
  rw [Bool.eq_iff_iff]
  simp only [qA, q29, q20, q22, q23, Bool.and_eq_true, and_true]
  constructor
  · rintro ⟨⟨a1, a2, a3, a4, a5, a6, a7, a8, a9, a10, a11, a12, a13⟩, b, c, d, e⟩
    exact ⟨⟨a1, a2, a3, a4, a5, a6, a8, a7, a9, a10, a12, a11, a13⟩, b, ⟨a12, a11, c, d⟩, a13, e⟩
  · rintro ⟨⟨a1, a2, a3, a4, a5, a6, a7, a8, a9, a10, a11, a12, a13⟩, b, ⟨c1, c2, c, d⟩, e1, e⟩
    exact ⟨⟨a1, a2, a3, a4, a5, a6, a8, a7, a9, a10, a12, a11, a13⟩, b, c, d, e⟩
theorem allF_lt {p q : Nat → Bool} {n : Nat} (h : ∀ i, i < n → p i = q i) : allF p 0 n = allF q 0 n := by
  rw [Bool.eq_iff_iff, allF_iff, allF_iff]
  exact forall_congr' fun j => ⟨fun hp hj => by rw [Nat.zero_add, ← h j hj]; simpa using hp hj, fun hp hj => by rw [Nat.zero_add, h j hj]; simpa using hp hj⟩
theorem sameP_eq (t : Tree) : ∀ u : Tree, t.sameP u = t.sameR u := by
  induction t using tree_ind with
  | h t ih =>
    intro u
    rw [sameP_at, sameR_eq, qA_eq, allF_lt fun i hi => ih i hi (u.kids i)]
    simp only [Bool.and_assoc]
theorem sameR_comm (t : Tree) : ∀ u : Tree, t.sameR u = u.sameR t := by
  induction t using tree_ind with
  | h t ih =>
    intro u
    rw [sameR_eq t u, sameR_eq u t, q20_comm t.h u.h, qM_comm t.h u.h, q22_comm t.h u.h, q23_comm t.h u.h]
    by_cases e : t.kn = u.kn
    · rw [decide_eq_true e, decide_eq_true e.symm, allF_lt fun i hi => ih i hi (u.kids i), e]
    · rw [decide_eq_false e, decide_eq_false (fun h => e h.symm)]
      rfl
theorem sameR_self (t : Tree) : t.sameR t = true := by
  induction t using tree_ind with
  | h t ih =>
    rw [sameR_eq]
    simp only [Bool.and_eq_true]
    refine ⟨?_, qM_self t.h, ?_, ?_, by simp, ?_⟩
    · simp [q20, neq_self]
    · simp [q22, eqS_self]
    · simp [q23, eqS_self]
    · exact allF_iff.2 fun j hj => by rw [Nat.zero_add]; exact ih j hj
end
end Go.Proofs.Pa
