/- Handlers of package reflectlite's functions, of abi.NoEscape. -/
import Derived.Test.YtkpdfahdgodajaaGreatDoorRx13
namespace Go.Rx
noncomputable section
open Go.Extern Go.Extern.Rtype

structure ExtNo where
  valueOf : FuncId
  typ : FuncId
  isNil : FuncId
  elem : FuncId
  set : FuncId
  typeOf : FuncId
  same : FuncId

def kindP (P : Program) (t : TypeId) : Option Nat := pureM P (Rtype.kind t)
/-- The parts of an abstract reflectlite.Value that is not the zero one; its type is no stand-in pack's. -/
def valAny (P : Program) : AV → Option (TypeId × Nat × Nat × Nat)
  | .agg [.ptr h t, .ptr i off, .int .u64 (.ofNat (fl + 1))] => if h = P.globals.size then some (t, i, off, fl + 1) else none
  | _ => none
def valParts (P : Program) (v : AV) : Option (TypeId × Nat × Nat × Nat) :=
  match valAny P v with
  | some (t, i, off, fl) => match P.packed t with
    | false => some (t, i, off, fl)
    | true => none
  | none => none
def xExt (P : Program) (G : Nat) (no : ExtNo) : Ext := fun f args S =>
  if f = no.same then match args with
    | [v] => some (.val v S)
    | _ => none
  else if f = no.typeOf then match args with
    | [.iface t _] => match pureM P (ReflectliteType.typeOf #[.iface t .nilIface]) with
      | some y => match cvg G 4 y with
        | some u => some (.val u S)
        | none => none
      | none => none
    | _ => none
  else if f = no.valueOf then match args with
    | [.iface t v] => match kindP P t with
      | some k => some (.val (.agg [.ptr P.globals.size t, .ptr S.nxt 0, .int .u64 (Int.ofNat (k + 128 + 0))]) (S.new (.cells v.cells t none .free)))
      | none => none
    | _ => none
  else if f = no.typ then match args with
    | [v] => match valAny P v with
      | some (t, _, _, _) => match pureM P (ReflectliteType.toType t) with
        | some y => match cvg G 4 y with
          | some u => some (.val u S)
          | none => none
        | none => none
      | none => none
    | _ => none
  else if f = no.isNil then match args with
    | [v] => match valParts P v with
      | some (t, i, off, fl) => if fl % 32 = 22 then match xLoad P t (.ptr i off) S with
        | some (.ptr _ _) => some (.val (.bool false) S)
        | _ => none
        else none
      | none => none
    | _ => none
  else if f = no.elem then match args with
    | [v] => match valParts P v with
      | some (t, i, off, fl) => if fl % 32 = 22 then match xLoad P t (.ptr i off) S, pureM P (Rtype.elem? t) with
        | some (.ptr j o), some (some e) => match kindP P e with
          | some k => some (.val (.agg [.ptr P.globals.size e, .ptr j o, .int .u64 (Int.ofNat (k + 128 + 256))]) S)
          | none => none
        | _, _ => none
        else none
      | none => none
    | _ => none
  else if f = no.set then match args with
    | [v, x] => match valParts P v, valParts P x with
      | some (dst, i, off, fl), some (src, j, o, _) =>
        if fl / 256 % 2 = 1 then match xLoad P src (.ptr j o) S, pureM P (Rtype.directlyAssignable dst src) with
          | some u, some true => match xStore P dst (.ptr i off) u S with
            | some S' => some (.val (.tup []) S')
            | none => none
          | _, _ => none
        else none
      | _, _ => none
    | _ => none
  else none
end
end Go.Rx
