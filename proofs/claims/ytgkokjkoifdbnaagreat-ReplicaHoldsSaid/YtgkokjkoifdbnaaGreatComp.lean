import Derived.Test.YtgkokjkoifdbnaaGreatAm0
import Derived.Test.YtgkokjkoifdbnaaGreatOps3
/- From the loaded program's code to the interpreter's. -/
namespace Go.Am
set_option autoImplicit false

def ofVal : Value → AV
  | .agg cs => .agg (cs.toList.map .v)
  | .tuple vs => .tup (vs.toList.map .v)
  | x => .v x
def compO : Operand → Option AO
  | .tmp t => some (.t t)
  | .const v => some (.c (ofVal v))
  | .func g => some (.c (.fn g []))
  | .global _ => none
def compOs (xs : Array Operand) : Option (List AO) := mapO compO xs.toList
def compOO : Option Operand → Option (Option AO)
  | none => some none
  | some x => (compO x).map some

/-- A type's zero cells, as many as its size says. -/
def zeroL (P : Program) (t : TypeId) : Option (List AV) :=
  match P.info? t with
  | none => none
  | some i => match i.zero with
    | none => none
    | some z => if z.cells.size = i.size then some (z.cells.toList.map .v) else none

def compParts (place : Nat → Option (Nat × Nat)) : List (Nat × Operand) → Option (List (Nat × Nat × AO))
  | [] => some []
  | (i, x) :: r => match place i, compO x, compParts place r with
    | some (off, sz), some a, some l => some ((off, sz, a) :: l)
    | _, _, _ => none

def isNilS : Operand → Bool
  | .const (.slice none 0 0) => true
  | _ => false
def isNilP : Operand → Bool
  | .const (.pointer none) => true
  | _ => false

def compBin (P : Program) (b : BinOp) (t : TypeId) (x y : Operand) : Option AOp :=
  match P.underlying t, compO x, compO y with
  | some d, some ax, some ay =>
    match d with
    | .int _ => some (.bin b ax ay)
    | .string => some (.bin b ax ay)
    | .bool => match b with
      | .eql => some (.beq false ax ay)
      | .neq => some (.beq true ax ay)
      | _ => none
    | .struct _ => match plainN P 100 t with
      | none => none
      | some ks => if P.eqGuardType P.depth t = false then (match b with
        | .eql => some (.eqAgg false ks ax ay)
        | .neq => some (.eqAgg true ks ax ay)
        | _ => none) else none
    | .slice _ => match b with
      | .eql => bif isNilS y then some (.eqNilS false ax) else none
      | .neq => bif isNilS y then some (.eqNilS true ax) else none
      | _ => none
    | .pointer _ => match b with
      | .eql => bif isNilP y then some (.eqNilP false ax) else none
      | .neq => bif isNilP y then some (.eqNilP true ax) else none
      | _ => none
    | _ => none
  | _, _, _ => none

def compConv (P : Program) (s d : TypeId) (x : Operand) : Option AOp :=
  match P.underlying s, P.underlying d, compO x with
  | some (.int _), some (.int k), some a => some (.conv k a)
  | some (.slice e), some .string, some a => match P.underlying e with
    | some (.int .u8) => some (.b2s a)
    | _ => none
  | some .string, some (.slice e), some a => match P.underlying e with
    | some (.int .u8) => some (.s2b a)
    | _ => none
  | some .string, some .string, some a => some (.convS a)
  | _, _, _ => none

def notInt : TypeDesc → Bool
  | .int _ => false
  | _ => true

def compBuiltin (P : Program) (b : Builtin) (args : Array Operand) (ats : Array TypeId) : Option AOp :=
  match b, compOs args, ats.toList with
  | .len, some [x], [t] => match P.underlying t with
    | some .string => some (.lenS x)
    | some (.slice _) => some (.len x)
    | _ => none
  | .append, some [s, x], [t, u] => match P.underlying t, P.underlying u with
    | some (.slice e), some d => match P.info? e, zeroL P e with
      | some i, some _ => bif notInt d then some (.append e i.size i.bytes s x) else none
      | _, _ => none
    | _, _ => none
  | .copy, some [d, s], [t, _] => match P.underlying t with
    | some (.slice e) => (P.info? e).map fun i => .copy i.size d s
    | _ => none
  | .clear, some [s], [t] => match P.underlying t with
    | some (.slice e) => match P.info? e, zeroL P e with
      | some i, some z => some (.clear i.size z s)
      | _, _ => none
    | _ => none
  | .max, some xs, _ => some (.max xs)
  | .min, some xs, _ => some (.min xs)
  | _, _, _ => none

def compOp (P : Program) (op : Op) : Option AOp :=
  match op with
  | .move x => (compO x).map .move
  | .assign x => (compO x).map .move
  | .pick c a b => match compO c, compO a, compO b with
    | some c, some a, some b => some (.pick c a b)
    | _, _, _ => none
  | .alloc e => (zeroL P e).map (.alloc e ·)
  | .box e x => match P.info? e, compO x with
    | some i, some a => some (.box e i.size a)
    | _, _ => none
  | .build t parts => match P.underlying t, P.info? t, zeroL P t with
    | some (.struct fs), some _, some z => match fs.toList.mapM (fun f => (P.info? f.type).map fun i => (f.offset, i.size)) with
      | none => none
      | some places => (compParts (places.toArray[·]?) parts.toList).map (.build z ·)
    | some (.array _ e), some _, some z => match P.info? e with
      | none => none
      | some ie => (compParts (fun i => some (i * ie.size, ie.size)) parts.toList).map (.build z ·)
    | _, _, _ => none
  | .buildSlice t n parts => match P.underlying t with
    | some (.slice e) => match P.info? e, zeroL P e with
      | some i, some z => if n * i.size ≤ 16777216 then (compParts (fun k => some (k * i.size, i.size)) parts.toList).map (.buildSlice e i.size n z ·) else none
      | _, _ => none
    | _ => none
  | .load t x => match P.underlying t, P.info? t, compO x with
    | some d, some i, some a => some (.load (aggD d) i.size a)
    | _, _, _ => none
  | .store t a x => match P.info? t, compO a, compO x with
    | some i, some a, some x => some (.store i.size a x)
    | _, _, _ => none
  | .nilCheck x => (compO x).map .nilChk
  | .binOp b t x y _ => compBin P b t x y
  | .unOp o _ x => (compO x).map (.un o ·)
  | .convert s d x => compConv P s d x
  | .makeFunc (.func g) first caps => bif first.isEmpty then (compOs caps).map (.mkfn g ·) else none
  | .makeSlice t l c => match P.underlying t with
    | some (.slice e) => match P.info? e, zeroL P e, compO l, compO c with
      | some i, some z, some l, some c => some (.mkslice e i.size i.bytes z l c)
      | _, _, _, _ => none
    | _ => none
  | .slice t x lo hi mx => match P.underlying t, compO x, compOO lo, compOO hi, compOO mx with
    | some .string, some x, some lo, some hi, some none => some (.sliceS x lo hi)
    | some (.slice e), some x, some lo, some hi, some mx => (P.info? e).map fun i => .slice i.size x lo hi mx
    | _, _, _, _, _ => none
  | .fieldAddr s x f => match P.underlying s, compO x with
    | some (.struct fs), some a => match fs[f]? with
      | none => none
      | some fd => match P.info? fd.type with
        | none => none
        | some i => if i.size = 0 then none else some (.faddr fd.offset a)
    | _, _ => none
  | .field s x f => match P.underlying s, compO x with
    | some (.struct fs), some a => match fs[f]? with
      | none => none
      | some fd => match P.underlying fd.type, P.info? fd.type with
        | some d, some i => some (.field (aggD d) fd.offset i.size a)
        | _, _ => none
    | _, _ => none
  | .indexAddr t x i => match P.underlying t, compO x, compO i with
    | some (.slice e), some a, some b => (P.info? e).map fun ie => .iaddr ie.size a b
    | some (.array n e), some a, some b => (P.info? e).map fun ie => .aaddr ie.size n a b
    | _, _, _ => none
  | .index t x i => match P.underlying t, compO x, compO i with
    | some .string, some a, some b => some (.index a b)
    | some (.array n e), some a, some b => match P.underlying e, P.info? e with
      | some d, some ie => some (.aindex (aggD d) ie.size n a b)
      | _, _ => none
    | _, _, _ => none
  | .extract x i => (compO x).map (.ext · i)
  | .call c => match c.callee with
    | .builtin b => compBuiltin P b c.args c.argTypes
    | .value f => match f, compO f, compOs c.args with
      | .func g, _, some as => some (.call g as)
      | _, some f, some as => some (.callv f as)
      | _, _, _ => none
    | .invoke _ _ => none
  | _ => none

end Go.Am
