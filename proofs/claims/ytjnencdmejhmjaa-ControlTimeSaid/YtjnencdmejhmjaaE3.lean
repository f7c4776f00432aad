/- ENGINE, part 3: the operations that only read: what they give, and that they give it. -/
import Derived.Test.YtjnencdmejhmjaaE2
namespace Go.Proofs.Ytjnencdmejhmjaa.Eng
open Go Go.RowKit

inductive IOp where
  | mov (x : Opd)
  | asg (x : Opd)
  | pick (c a b : Opd)
  | bin (o : BinOp) (x y : Opd)
  | boolq (neg : Bool) (x y : Opd)
  | eqs (neg : Bool) (ks : List Bool) (x y : Opd)
  | un (o : UnOp) (x : Opd)
  | conv (k : IntKind) (x : Opd)
  | load (n : Option Nat) (x : Opd)
  | nilck (x : Opd)
  | faddr (off : Nat) (x : Opd)
  | fld (n : Option Nat) (off : Nat) (x : Opd)
  | iaddr (sz : Nat) (x i : Opd)
  | slc (sz : Nat) (x : Opd) (lo hi : Option Opd)
  | ext (i : Nat) (x : Opd)
  | len (x : Opd)
  | minn (x : Opd) (xs : List Opd)
  | maxx (x : Opd) (xs : List Opd)
  | build (z : List Value) (parts : List (Nat × Nat × Opd))
  | mkf (f : Nat) (caps : List Opd)
  | store (n : Nat) (x y : Opd)
  | alloc (z : Value)
  | box (x : Opd)
  | bsl (sz : Nat) (z : Value) (len : Nat) (parts : List (Nat × Opd))
  | mks (sz : Nat) (z : Value) (bytes : Nat) (l c : Opd)
  | app (sz bytes : Nat) (x y : Opd)
  | call (f : Nat) (xs : List Opd)
  | callv (x : Opd) (xs : List Opd)
  | eqnil (neg : Bool) (x : Opd)
  | clr (sz : Nat) (z : Value) (x : Opd)
  | mkm
  | lkp (ok : Bool) (kt : Nat) (z : Value) (x k : Opd)
  | mup (kt : Nat) (x k y : Opd)
def opds (ρ : Opd → Option AV) : List Opd → Option (List AV)
  | [] => some []
  | x :: r => (ρ x).bind fun a => (opds ρ r).bind fun l => some (a :: l)
def optOpd (ρ : Opd → Option AV) : Option Opd → Option (Option AV)
  | none => some none
  | some x => (ρ x).bind fun a => some (some a)
def opdParts (ρ : Opd → Option AV) : List (Nat × Nat × Opd) → Option (List (Nat × Nat × AV))
  | [] => some []
  | (i, n, x) :: r => (ρ x).bind fun a => (opdParts ρ r).bind fun l => some ((i, n, a) :: l)
def eqCells (neg : Bool) (ks : List Bool) : AV → AV → Option AV
  | .agg a, .agg b => (eqsVal ks a b).bind fun t => some (.b (if neg then !t else t))
  | _, _ => none
def fldVal (n : Option Nat) (off : Nat) : AV → Option AV
  | .agg cs => cutCells cs off n
  | _ => none
def extVal (i : Nat) : AV → Option AV
  | .tup vs => vs[i]?
  | _ => none
def nilckVal : AV → Option AV
  | .ptr h a sz i f => some (.ptr h a sz i f)
  | .fptr cs => some (.fptr cs)
  | .fn f cs => some (.fn f cs)
  | _ => none
def convVal (k : IntKind) : AV → Option AV
  | .v (.int _ n) => some (.v (.int k (k.wrap n)))
  | _ => none
def pickVal (ρ : Opd → Option AV) (a b : Opd) : AV → Option AV
  | .v (.bool t) => if t = true then ρ a else ρ b
  | _ => none
/-- What an operation that only reads gives. -/
def IOp.val (ρ : Opd → Option AV) (H : Heap) : IOp → Option AV
  | .mov x | .asg x => ρ x
  | .pick c a b => (ρ c).bind (pickVal ρ a b)
  | .bin o x y => (ρ x).bind fun a => (ρ y).bind fun b => binVal o a b
  | .boolq neg x y => (ρ x).bind fun a => (ρ y).bind fun b => boolVal neg a b
  | .eqs neg n x y => (ρ x).bind fun a => (ρ y).bind fun b => eqCells neg n a b
  | .un o x => (ρ x).bind fun a => unVal o a
  | .conv k x => (ρ x).bind (convVal k)
  | .load n x => (ρ x).bind fun a => loadVal n H a
  | .nilck x => (ρ x).bind nilckVal
  | .faddr off x => (ρ x).bind fun a => faddrVal off a
  | .fld n off x => (ρ x).bind (fldVal n off)
  | .iaddr sz x i => (ρ x).bind fun a => (ρ i).bind fun b => iaddrVal sz a b
  | .slc sz x lo hi => (ρ x).bind fun a => (optOpd ρ lo).bind fun l => (optOpd ρ hi).bind fun h => sliceVal sz l h a
  | .ext i x => (ρ x).bind (extVal i)
  | .len x => (ρ x).bind fun a => lenVal a
  | .minn x xs => (ρ x).bind fun a => (opds ρ xs).bind fun l => minVal a l
  | .maxx x xs => (ρ x).bind fun a => (opds ρ xs).bind fun l => maxVal a l
  | .build z parts => (opdParts ρ parts).bind fun l => (fillVal (z.map .v) l).bind fun cs => some (.agg cs)
  | .mkf f caps => (opds ρ caps).bind fun l => some (.fn f l)
  | _ => none

def compOpds : List Operand → Option (List Opd)
  | [] => some []
  | x :: r => (compOpd x).bind fun a => (compOpds r).bind fun l => some (a :: l)
def compOpt : Option Operand → Option (Option Opd)
  | none => some none
  | some x => (compOpd x).bind fun a => some (some a)
def sizeP (P : Program) (t : TypeId) : Option Nat := (P.info? t).map (·.size)
/-- how many cells a variable of the type has, none: one cell, no struct -/
def shapeP (P : Program) (t : TypeId) : Option (Option Nat) :=
  match P.underlying t with
  | some (.struct _) | some (.array _ _) => (sizeP P t).bind fun n => some (some n)
  | some _ => some none
  | none => none
def scalarP (P : Program) (t : TypeId) : Bool :=
  match P.underlying t with
  | some (.int _) | some .bool => true
  | _ => false
/-- the fields' types are whole numbers and bools of one cell each, in order -/
def plainFields (P : Program) : List Field → Nat → Bool
  | [], _ => true
  | f :: r, n => f.offset == n && f.name != "_" && scalarP P f.type && plainFields P r (n + 1)
def kindsP (P : Program) (fs : List Field) : List Bool := fs.map fun f => match P.underlying f.type with | some (.int _) => true | _ => false
def compParts (P : Program) (fs : Array Field) : List (Nat × Operand) → Option (List (Nat × Nat × Opd))
  | [] => some []
  | (i, x) :: r => (fs[i]?).bind fun f => (sizeP P f.type).bind fun n => (compOpd x).bind fun a => (compParts P fs r).bind fun l => some ((f.offset, n, a) :: l)
def compVal (P : Program) (o : Op) : Option IOp :=
  match o with
  | .move x => (compOpd x).bind fun a => some (.mov a)
  | .assign x => (compOpd x).bind fun a => some (.asg a)
  | .pick c a b => (compOpd c).bind fun c => (compOpd a).bind fun a => (compOpd b).bind fun b => some (.pick c a b)
  | .binOp op t x y _ => (compOpd x).bind fun a => (compOpd y).bind fun b =>
    match P.underlying t with
    | some (.int _) => some (.bin op a b)
    | some .bool => match op with | .eql => some (.boolq false a b) | .neq => some (.boolq true a b) | _ => none
    | some (.struct fs) => if plainFields P fs.toList 0 && !P.stoodInHeld t && !P.eqGuardType P.depth t then (match op with | .eql => some (.eqs false (kindsP P fs.toList) a b) | .neq => some (.eqs true (kindsP P fs.toList) a b) | _ => none) else none
    | _ => none
  | .unOp op _ x => (compOpd x).bind fun a => match op with | .neg => some (.un .neg a) | .not => some (.un .not a) | _ => none
  | .convert src dst x => match P.underlying src, P.underlying dst with | some (.int _), some (.int k) => (compOpd x).bind fun a => some (.conv k a) | _, _ => none
  | .load t x => (shapeP P t).bind fun n => (compOpd x).bind fun a => some (.load n a)
  | .nilCheck x => (compOpd x).bind fun a => some (.nilck a)
  | .fieldAddr s x f => match P.underlying s with
    | some (.struct fs) => (fs[f]?).bind fun g => (sizeP P g.type).bind fun n => if n = 0 then none else (compOpd x).bind fun a => some (.faddr g.offset a)
    | _ => none
  | .field s x f => match P.underlying s with
    | some (.struct fs) => (fs[f]?).bind fun g => (shapeP P g.type).bind fun n => (compOpd x).bind fun a => some (.fld n g.offset a)
    | _ => none
  | .indexAddr t x i => match P.underlying t with
    | some (.slice e) => (sizeP P e).bind fun n => (compOpd x).bind fun a => (compOpd i).bind fun b => some (.iaddr n a b)
    | _ => none
  | .slice t x lo hi none => match P.underlying t with
    | some (.slice e) => (sizeP P e).bind fun n => if n = 0 then none else (compOpd x).bind fun a => (compOpt lo).bind fun l => (compOpt hi).bind fun h => some (.slc n a l h)
    | _ => none
  | .extract x i => (compOpd x).bind fun a => some (.ext i a)
  | .call ⟨.builtin .len, xs, ts⟩ => match xs.toList, ts.toList with
    | [x], [t] => match P.underlying t with
      | some (.slice _) => (compOpd x).bind fun a => some (.len a)
      | _ => none
    | _, _ => none
  | .call ⟨.builtin .min, xs, _⟩ => match xs.toList with | x :: r => (compOpd x).bind fun a => (compOpds r).bind fun l => some (.minn a l) | [] => none
  | .call ⟨.builtin .max, xs, _⟩ => match xs.toList with | x :: r => (compOpd x).bind fun a => (compOpds r).bind fun l => some (.maxx a l) | [] => none
  | .build t parts => match P.underlying t with
    | some (.struct fs) => (P.info? t).bind fun i => match i.zero with
      | some (.agg z) => if (fs.toList.all fun f => (sizeP P f.type).isSome) then (compParts P fs parts.toList).bind fun l => some (.build z.toList l) else none
      | _ => none
    | _ => none
  | .makeFunc (.func f) first caps => if first.size = 0 then (compOpds caps.toList).bind fun l => some (.mkf f l) else none
  | _ => none
end Go.Proofs.Ytjnencdmejhmjaa.Eng
