/- Nodes as data. -/
import Derived.Test.YtlealmffhmhchaaGreatDoorPa0
namespace Go.Proofs.Pa
open Go.Ex
noncomputable section
structure Hd where
  kind : Int
  num : Int
  text : List Nat
  mz : Bool
  mn : Nat
  mk_ : Nat → Int
  mf : Nat → List Nat
  mg : Nat → List Nat
  rng : Int
  step : Int
  off : Int
  at_ : Int
  time : Int
  op : Int
  bool : Bool
  card : Int
  on_ : Bool
  lz : Bool
  ln : Nat
  lf : Nat → List Nat
  iz : Bool
  in_ : Nat
  if_ : Nat → List Nat
  gk : Int
  gz : Bool
  gn : Nat
  gf : Nat → List Nat
def Hd.zero : Hd := ⟨0, 0, [], true, 0, fun _ => 0, fun _ => [], fun _ => [], 0, 0, 0, 0, 0, 0, false, 0, false, true, 0, fun _ => [], true, 0, fun _ => [], 0, true, 0, fun _ => []⟩
inductive Tree where
  | nil
  | mk (h : Hd) (kz : Bool) (kn : Nat) (kids : Nat → Tree)
namespace Tree
def h : Tree → Hd | nil => .zero | mk h _ _ _ => h
def kz : Tree → Bool | nil => true | mk _ z _ _ => z
def kn : Tree → Nat | nil => 0 | mk _ _ n _ => n
def kids : Tree → Nat → Tree | nil => fun _ => nil | mk _ _ _ k => k
end Tree
def strs (z : Bool) (n : Nat) (f : Nat → List Nat) : AV := .snap 1 z n (fun i => [.str (f i)])
def mats (z : Bool) (n : Nat) (k : Nat → Int) (f g : Nat → List Nat) : AV := .snap 3 z n (fun i => [.int .u8 (k i), .str (f i), .str (g i)])
def cells (h : Hd) (kz : Bool) (kn : Nat) (kk : Nat → List AV) : List AV :=
  [.int .u8 h.kind, .int .u64 h.num, .str h.text, mats h.mz h.mn h.mk_ h.mf h.mg, .int .i64 h.rng, .int .i64 h.step, .int .i64 h.off, .int .u8 h.at_, .int .i64 h.time, .int .u8 h.op, .sb h.bool,
   .int .u8 h.card, .sb h.on_, strs h.lz h.ln h.lf, strs h.iz h.in_ h.if_, .int .u8 h.gk, strs h.gz h.gn h.gf, .snap 18 kz kn kk]
def ndl (z : Bool) (n : Nat) (H : Nat → Hd) (y : Nat → Bool) (d : Nat → Nat) (kk : Nat → Nat → List AV) : AV := .snap 18 z n (fun i => cells (H i) (y i) (d i) (kk i))
def enc : Tree → List AV
  | .nil => cells .zero true 0 (fun _ => cells .zero true 0 (fun _ => []))
  | .mk h kz kn kids => cells h kz kn (fun i => enc (kids i))
namespace Tree
/-- The kids' cells. -/
def inn : Tree → Nat → List AV | nil => fun _ => cells .zero true 0 (fun _ => []) | mk _ _ _ k => fun i => enc (k i)
def kH : Tree → Nat → Hd | nil => fun _ => .zero | mk _ _ _ k => fun i => (k i).h
def kZ : Tree → Nat → Bool | nil => fun _ => true | mk _ _ _ k => fun i => (k i).kz
def kN : Tree → Nat → Nat | nil => fun _ => 0 | mk _ _ _ k => fun i => (k i).kn
def kK : Tree → Nat → Nat → List AV | nil => fun _ _ => [] | mk _ _ _ k => fun i => (k i).inn
end Tree
theorem enc_eq (t : Tree) : enc t = cells t.h t.kz t.kn t.inn := by cases t <;> rfl
theorem inn_eq (t : Tree) : t.inn = fun i => cells (t.kH i) (t.kZ i) (t.kN i) (t.kK i) := by
  cases t with
  | nil => rfl
  | mk h z n k => funext i; exact enc_eq (k i)
def node (h : Hd) (kz : Bool) (kn : Nat) (kk : Nat → List AV) : AV := .agg (cells h kz kn kk)
end
end Go.Proofs.Pa
