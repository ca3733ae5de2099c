/- The reflective executor, part 22: the handlers of Ext4 are sound. -/
import Derived.Test.YtkpdfahdgodajaaGreatDoorExt4
import Derived.Test.YtkpdfahdgodajaaGreatDoorRx21
import Derived.Lib.ReflectliteSlice
namespace Go.Rx
open Go.RowKit Go.Extern Go.Extern.Rtype
noncomputable section
section
variable {P : Program} {G B : Nat} {w0 w : World} {ε : Env} {S : St}

/-- f is the entry e. -/
def IsX (P : Program) (f : FuncId) (e : Array Value → Sem Value) : Prop := ∀ args w, (callFunc f args).run P w = ((e args).run P w).andThen fun v w' => .ok (.value v) w'
structure ExtIs (P : Program) (G : Nat) (no : ExtNo) : Prop where
  gs : P.globals.size < G
  same : IsX P no.same AbiNoEscape.same
  typeOf : IsX P no.typeOf ReflectliteType.typeOf
  valueOf : IsX P no.valueOf fun args => ReflectliteValue.unpack (args.getD 0 (.tuple #[]))
  typ : IsX P no.typ (ReflectliteValue.methodAny (ReflectliteValue.valueError "reflectlite.Value.Type" 0) fun t _ _ _ => ReflectliteType.toType t)
  isNil : IsX P no.isNil (ReflectliteValue.method (ReflectliteValue.valueError "reflectlite.Value.IsNil" 0) ReflectliteValue.isNil)
  elem : IsX P no.elem (ReflectliteValue.method (ReflectliteValue.valueError "reflectlite.Value.Elem" 0) ReflectliteValue.elem)
  set : IsX P no.set ReflectliteValue.set

theorem partsAny_eq (h : Value) (a : Addr) (n : Nat) : ReflectliteValue.partsAny (.agg #[h, .pointer (some a), .int .u64 (.ofNat (n + 1))]) = (do pure (some (← ofHandle h, a, n + 1))) := rfl
theorem methodAny_eq (z : Sem Value) (f : TypeId → Addr → Nat → Nat → Sem Value) (v : Value) :
    ReflectliteValue.methodAny z f #[v] = (do match ← ReflectliteValue.partsAny v with | none => z | some (t, a, fl) => f t a fl (fl % 32)) := rfl
theorem method_eq (z : Sem Value) (f : TypeId → Addr → Nat → Nat → Sem Value) (v : Value) :
    ReflectliteValue.method z f #[v] = (do match ← ReflectliteValue.parts v with | none => z | some (t, a, fl) => f t a fl (fl % 32)) := rfl
theorem same_eq (v : Value) : AbiNoEscape.same #[v] = pure v := rfl
theorem typeOf_eq (t : TypeId) (v : Value) : ReflectliteType.typeOf #[.iface t v] = ReflectliteType.toType t := rfl
theorem set_eq (v x : Value) : ReflectliteValue.set #[v, x] = (do
    let (some (dst, a, fl), some (src, b, _)) := (← ReflectliteValue.parts v, ← ReflectliteValue.parts x)
      | unsupported (.noEntry "extern/(internal/reflectlite.Value).Set.zeroValue")
    if fl / ReflectliteValue.flagAddr % 2 == 0 then unsupported (.noEntry "extern/(internal/reflectlite.Value).Set.unaddressable")
    let val ← loadVar src b
    if ← Rtype.directlyAssignable dst src then storeVar dst a val
    else if ← Rtype.implements dst src then
      if (← Rtype.kind src) == 20 then
        match val with
        | .nilIface => unsupported (.noEntry "extern/reflectlite: a nil value of one interface type handed on as a value of another")
        | _ => storeVar dst a val
      else storeVar dst a (.iface src val)
    else panicString ("reflectlite.Set: value of type " ++ (← Rtype.spelt src) ++ " is not assignable to type " ++ (← Rtype.spelt dst))
    pure (.tuple #[])) := rfl

theorem valAny_run (hgs : P.globals.size < G) (h : Rel G B w0 ε S w) {v : AV} {x : Value} (hx : γ ε v = some x) {t : TypeId} {i off fl : Nat} (hl : valAny P v = some (t, i, off, fl)) :
    ∃ b, ε.δ i = some b ∧ ∀ w, (ReflectliteValue.partsAny x).run P w = .ok (some (t, ⟨b, off, none⟩, fl)) w := by
  unfold valAny at hl
  split at hl <;> try (simp at hl; done)
  rename_i hh t' i' off' n
  split at hl <;> simp at hl
  rename_i hgl
  obtain ⟨rfl, rfl, rfl, rfl⟩ := hl
  subst hgl
  simp only [γ, Option.map_eq_some_iff] at hx
  obtain ⟨xs, h1, rfl⟩ := hx
  obtain ⟨x1, ys, h2, h3, rfl⟩ := γs_cons.1 h1
  obtain ⟨x2, zs, h4, h5, rfl⟩ := γs_cons.1 h3
  obtain ⟨x3, us, h6, h7, rfl⟩ := γs_cons.1 h5
  rw [γs_nil] at h7
  subst h7
  simp only [γ, h.glob _ hgs, Option.map_some, Option.some.injEq] at h2
  simp only [γ, Option.map_eq_some_iff] at h4
  obtain ⟨b, hb, rfl⟩ := h4
  simp only [γ, Option.some.injEq] at h6
  subst h2; subst h6
  refine ⟨b, hb, fun w => ?_⟩
  show (ReflectliteValue.partsAny (.agg #[_, _, _])).run P w = _
  rw [partsAny_eq]
  simp [ofHandle, handleType, Result.andThen]
theorem valParts_run (hgs : P.globals.size < G) (h : Rel G B w0 ε S w) {v : AV} {x : Value} (hx : γ ε v = some x) {t : TypeId} {i off fl : Nat} (hl : valParts P v = some (t, i, off, fl)) :
    ∃ b, ε.δ i = some b ∧ ∀ w, (ReflectliteValue.parts x).run P w = .ok (some (t, ⟨b, off, none⟩, fl)) w := by
  unfold valParts at hl
  split at hl <;> try (simp at hl; done)
  rename_i t' i' off' fl' hany
  split at hl <;> simp at hl
  rename_i hpk
  obtain ⟨rfl, rfl, rfl, rfl⟩ := hl
  obtain ⟨b, hb, hr⟩ := valAny_run hgs h hx hany
  refine ⟨b, hb, fun w => ?_⟩
  unfold ReflectliteValue.parts
  simp only [Sem.run_bind, hr w, Result.andThen_ok, Lib.rl_noPack _ _ hpk, Sem.run_pure]

theorem MeansX {f : FuncId} {e : Array Value → Sem Value} (he : IsX P f e) {args : Array Value} {v : AV} {S' : St} (h : MeansV G B w0 ε S ((e args).run P w) v S') : Means G B w0 ε S ((callFunc f args).run P w) (.val v S') := by
  obtain ⟨x, w', ε', h1, h2, h3, h4, h5⟩ := h
  refine ⟨x, w', ε', ?_, h2, h3, h4, h5⟩
  rw [he args w, h1]; rfl
theorem args1 {v : AV} {xs : List Value} (h : γs ε [v] = some xs) : ∃ x, xs = [x] ∧ γ ε v = some x := by
  obtain ⟨x, ys, h1, h2, rfl⟩ := γs_cons.1 h
  rw [γs_nil] at h2
  subst h2
  exact ⟨x, rfl, h1⟩

theorem ext_sound {no : ExtNo} (hN : ExtIs P G no) : EOk P G (xExt P G no) := by
  intro B w0 ε S w f args xs n h hx hl
  unfold xExt at hl
  split at hl
  · rename_i hf
    subst hf
    split at hl <;> simp at hl
    rename_i v
    subst hl
    obtain ⟨x, rfl, hv⟩ := args1 hx
    exact MeansX hN.same (MeansV.same h (by rw [show ([x] : List Value).toArray = #[x] from rfl, same_eq]; rfl) hv)
  · split at hl
    · rename_i hf
      subst hf
      split at hl <;> try (simp at hl; done)
      rename_i t v0
      split at hl <;> try (simp at hl; done)
      rename_i y hy
      split at hl <;> simp at hl
      rename_i u hu
      subst hl
      obtain ⟨x, rfl, hv⟩ := args1 hx
      simp only [γ, Option.map_eq_some_iff] at hv
      obtain ⟨z, _, rfl⟩ := hv
      have hr := pureM_run hy w
      rw [typeOf_eq] at hr
      exact MeansX hN.typeOf (MeansV.same h (by rw [show ([Value.iface t z] : List Value).toArray = #[.iface t z] from rfl, typeOf_eq]; exact hr) (cvg_sound h.glob 4 y u hu))
    · split at hl
      · rename_i hf
        subst hf
        split at hl <;> try (simp at hl; done)
        rename_i t v0
        split at hl <;> simp at hl
        rename_i k hk
        subst hl
        obtain ⟨x, rfl, hv⟩ := args1 hx
        simp only [γ, Option.map_eq_some_iff] at hv
        obtain ⟨z, hz, rfl⟩ := hv
        obtain ⟨ε', h1, h2, h3⟩ := h.newCells (γ_cells hz) t
        refine MeansX hN.valueOf ⟨.agg #[typeHandle P t, .pointer (some ⟨w.heap.size, 0, none⟩), .int .u64 (Int.ofNat (k + 128 + 0))], w.alloc (.cells z.cells t), ε', ?_, h1, ?_, h3, by simp [St.nxt_new]⟩
        · have hkr := pureM_run hk (w.alloc (.cells z.cells t))
          simp [ReflectliteValue.unpack, ReflectliteValue.mk, newVar_run, handle, hkr, Result.andThen, ReflectliteValue.flagIndir]
        · simp [γ, γs, h2, h3.glob _ hN.gs, typeHandle]
      · split at hl
        · rename_i hf
          subst hf
          split at hl <;> try (simp at hl; done)
          rename_i v0
          split at hl <;> try (simp at hl; done)
          rename_i t _ _ _ hva
          split at hl <;> try (simp at hl; done)
          rename_i y hy
          split at hl <;> simp at hl
          rename_i u hu
          subst hl
          obtain ⟨x, rfl, hv⟩ := args1 hx
          obtain ⟨b, hb, hr⟩ := valAny_run hN.gs h hv hva
          refine MeansX hN.typ (MeansV.same h ?_ (cvg_sound h.glob 4 y u hu))
          rw [show ([x] : List Value).toArray = #[x] from rfl, methodAny_eq]
          simp only [Sem.run_bind, hr w, Result.andThen_ok, pureM_run hy w]
        · split at hl
          · rename_i hf
            subst hf
            split at hl <;> try (simp at hl; done)
            rename_i v0
            split at hl <;> try (simp at hl; done)
            rename_i t i off fl hva
            split at hl <;> try (simp at hl; done)
            rename_i h22
            split at hl <;> simp at hl
            rename_i j o hld
            subst hl
            obtain ⟨x, rfl, hv⟩ := args1 hx
            obtain ⟨b, hb, hr⟩ := valParts_run hN.gs h hv hva
            obtain ⟨y, h1, h2⟩ := loadVar_means (P := P) h hld hb
            simp only [γ, Option.map_eq_some_iff] at h2
            obtain ⟨b2, _, rfl⟩ := h2
            refine MeansX hN.isNil (MeansV.same h ?_ (by simp [γ]) (x := .bool false))
            rw [show ([x] : List Value).toArray = #[x] from rfl, method_eq]
            simp only [Sem.run_bind, hr w, Result.andThen_ok, h22, ReflectliteValue.isNil]
            simp [h1]
          · split at hl
            · rename_i hf
              subst hf
              split at hl <;> try (simp at hl; done)
              rename_i v0
              split at hl <;> try (simp at hl; done)
              rename_i t i off fl hva
              split at hl <;> try (simp at hl; done)
              rename_i h22
              split at hl <;> try (simp at hl; done)
              rename_i j o e hld hel
              split at hl <;> simp at hl
              rename_i k hk
              subst hl
              obtain ⟨x, rfl, hv⟩ := args1 hx
              obtain ⟨b, hb, hr⟩ := valParts_run hN.gs h hv hva
              obtain ⟨y, h1, h2⟩ := loadVar_means (P := P) h hld hb
              simp only [γ, Option.map_eq_some_iff] at h2
              obtain ⟨b2, hb2, rfl⟩ := h2
              have hkr := pureM_run hk w
              have her := pureM_run hel w
              refine MeansX hN.elem (MeansV.same h ?_ (x := .agg #[typeHandle P e, .pointer (some ⟨b2, o, none⟩), .int .u64 (Int.ofNat (k + 128 + 256))]) (by simp [γ, γs, hb2, h.glob _ hN.gs, typeHandle]))
              rw [show ([x] : List Value).toArray = #[x] from rfl, method_eq]
              simp only [Sem.run_bind, hr w, Result.andThen_ok, h22, ReflectliteValue.elem]
              simp [h1, her, ReflectliteValue.mk, handle, hkr, ReflectliteValue.flagIndir, ReflectliteValue.flagAddr, Result.andThen]
            · split at hl
              · rename_i hf
                subst hf
                split at hl <;> try (simp at hl; done)
                rename_i v0 x0
                split at hl <;> try (simp at hl; done)
                rename_i dst i off fl src j o fl2 hv1 hv2
                split at hl <;> try (simp at hl; done)
                rename_i hfl
                split at hl <;> try (simp at hl; done)
                rename_i u hld hda
                split at hl <;> simp at hl
                rename_i S' hst
                subst hl
                obtain ⟨x, ys, h1, h2, rfl⟩ := γs_cons.1 hx
                obtain ⟨y, rfl, h3⟩ := args1 h2
                obtain ⟨b, hb, hr⟩ := valParts_run hN.gs h h1 hv1
                obtain ⟨c, hc, hr2⟩ := valParts_run hN.gs h h3 hv2
                obtain ⟨z, h4, h5⟩ := loadVar_means (P := P) h hld hc
                obtain ⟨w', h6, h7, h8⟩ := storeVar_means (P := P) h h5 hst hb
                have hdr := pureM_run hda w
                refine MeansX hN.set ⟨.tuple #[], w', ε, ?_, Env.agr_refl _ _, by simp [γ, γs], h7, by omega⟩
                rw [show ([x, y] : List Value).toArray = #[x, y] from rfl, set_eq]
                have hb1 : (fl / ReflectliteValue.flagAddr % 2 == 0) = false := by
                  simp only [ReflectliteValue.flagAddr, hfl]; rfl
                simp only [Sem.run_bind, hr w, hr2 w, Result.andThen_ok, hb1, Bool.false_eq_true, if_false, Sem.run_pure, h4, hdr, if_true, h6]
              · simp at hl
theorem ext_base {no : ExtNo} : EB (xExt P G no) := by
  intro f args S n hl
  unfold xExt at hl
  (repeat' split at hl)
  all_goals try (simp at hl; done)
  all_goals (simp at hl; subst hl)
  all_goals first | rfl | (exact store_base (by assumption))
end
end
end Go.Rx
