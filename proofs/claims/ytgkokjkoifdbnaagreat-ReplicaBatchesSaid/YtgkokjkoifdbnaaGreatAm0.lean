import Derived.Orders
import Derived.Scope
/- The value-level interpreter of translated code: values are trees, memory of the call's own is a list of chunks. -/
namespace Go.Am
set_option autoImplicit false

inductive AV where
  | v (x : Value)
  | ptr (c off : Nat)
  | eptr (cells : List AV)
  | osl (c off len esz lb : Nat)
  | fsl (len : Nat) (cells : List AV)
  | fn (g : Nat) (caps : List AV)
  | agg (cs : List AV)
  | tup (vs : List AV)

def aundef : AV := .v (.tuple #[])
instance : Inhabited AV := ⟨aundef⟩

def AV.cells : AV → List AV
  | .agg cs => cs
  | .v (.agg cs) => cs.toList.map .v
  | a => [a]

/-- What fills one cell. -/
def oneA : AV → Bool
  | .agg _ => false
  | .tup _ => false
  | .v (.agg _) => false
  | .v (.tuple _) => false
  | _ => true
def oneAll : List AV → Bool
  | [] => true
  | a :: r => oneA a && oneAll r

structure Ch where
  ty : Nat
  cells : List AV

abbrev Heap := List (Nat × Ch)

def hget : Heap → Nat → Option Ch
  | [], _ => none
  | (k, ch) :: r, c => bif Nat.beq k c then some ch else hget r c
def hset : Heap → Nat → Ch → Heap
  | [], _, _ => []
  | (k, ch) :: r, c, x => bif Nat.beq k c then (k, x) :: r else (k, ch) :: hset r c x
def hdel : Heap → Nat → Heap
  | [], _ => []
  | (k, ch) :: r, c => bif Nat.beq k c then hdel r c else (k, ch) :: hdel r c

/-- An operand: a temporary, a constant. -/
inductive AO where
  | t (i : Nat)
  | c (a : AV)

/-- The temporaries, a tree by the number's parity. -/
inductive TM where
  | nil
  | one (a : AV)
  | two (l r : TM)
def tget : TM → Nat → AV
  | .nil, _ => aundef
  | .one a, n => bif Nat.beq n 0 then a else aundef
  | .two l r, n => bif Nat.beq (n % 2) 0 then tget l (n / 2) else tget r (n / 2)
def tset : TM → Nat → AV → TM
  | .nil, _, _ => .nil
  | .one a, n, y => bif Nat.beq n 0 then .one y else .one a
  | .two l r, n, y => bif Nat.beq (n % 2) 0 then .two (tset l (n / 2) y) r else .two l (tset r (n / 2) y)
def thas : TM → Nat → Bool
  | .nil, _ => false
  | .one _, n => Nat.beq n 0
  | .two l r, n => bif Nat.beq (n % 2) 0 then thas l (n / 2) else thas r (n / 2)
/-- So many of them, none set yet. -/
def blankT : Nat → Nat → TM
  | 0, n => bif Nat.beq n 0 then .nil else .one aundef
  | d + 1, n => bif Nat.beq n 0 then .nil else bif Nat.beq n 1 then .one aundef else .two (blankT d ((n + 1) / 2)) (blankT d (n / 2))
def putT : TM → Nat → List AV → TM
  | t, _, [] => t
  | t, k, a :: r => putT (tset t k a) (k + 1) r
def AO.ev (tm : TM) : AO → AV
  | .t i => tget tm i
  | .c a => a

inductive AOp where
  | move (x : AO)
  | pick (c a b : AO)
  | alloc (ty : Nat) (zero : List AV)
  | box (ty sz : Nat) (x : AO)
  | build (zero : List AV) (parts : List (Nat × Nat × AO))
  | buildSlice (ty esz len : Nat) (zero : List AV) (parts : List (Nat × Nat × AO))
  | load (agg : Bool) (sz : Nat) (x : AO)
  | store (sz : Nat) (a x : AO)
  | nilChk (x : AO)
  | bin (op : BinOp) (x y : AO)
  | beq (neg : Bool) (x y : AO)
  | eqAgg (neg : Bool) (ks : List Nat) (x y : AO)       -- the cells' kinds: 0 a bool, 1 a number, 2 a string
  | eqNilS (neg : Bool) (x : AO)
  | eqNilP (neg : Bool) (x : AO)
  | un (op : UnOp) (x : AO)
  | conv (k : IntKind) (x : AO)
  | convS (x : AO)
  | b2s (x : AO)
  | s2b (x : AO)
  | mkfn (g : Nat) (caps : List AO)
  | mkslice (ty esz bytes : Nat) (zero : List AV) (len cap : AO)
  | slice (esz : Nat) (x : AO) (lo hi mx : Option AO)
  | sliceS (x : AO) (lo hi : Option AO)
  | faddr (off : Nat) (x : AO)
  | field (agg : Bool) (off sz : Nat) (x : AO)
  | iaddr (esz : Nat) (x i : AO)
  | aaddr (esz len : Nat) (x i : AO)
  | index (x i : AO)
  | aindex (agg : Bool) (esz len : Nat) (x i : AO)
  | ext (x : AO) (i : Nat)
  | call (g : Nat) (args : List AO)
  | callv (f : AO) (args : List AO)
  | len (x : AO)
  | lenS (x : AO)
  | append (ty esz bytes : Nat) (s x : AO)
  | copy (esz : Nat) (d s : AO)
  | clear (esz : Nat) (zero : List AV) (s : AO)
  | max (xs : List AO)
  | min (xs : List AO)
  | bad                                  -- what the interpreter does not do

structure AOper where
  dst : Option Nat
  op : AOp
  guard : Option (Nat × Bool) := none   -- a temporary, what it must be
  un : List Nat := []                   -- those ahead of it in the text that are not ordered with it and may meet it in memory

inductive ACode where
  | skip
  | region (ops : List AOper)
  | dregion (ops : List AOper)
  | seq (a b : ACode)
  | cond (c : AO) (a b : ACode)
  | block (id : Nat) (c : ACode)
  | loop (c : ACode)
  | exit (id : Nat)
  | scope (c cur : ACode)
  | label (l : Nat)
  | goto (l : Nat)
  | ret

inductive ARes where
  | t (t : Nat)
  | cell (t : Nat) (agg : Bool) (sz : Nat)

/-- What is done with a call: its own memory, its answer a tree (own); in the caller's memory (in); by a program (prim). -/
structure AFun where
  own : Bool
  ntmps : Nat
  results : List ARes
  body : ACode

inductive AEx where
  | normal
  | exit (id : Nat)
  | goto (l : Nat)
  | ret

structure St where
  tm : TM
  H : Heap
  nx : Nat

/-! ### Values -/
def splice (cs : List AV) (off : Nat) (xs : List AV) : List AV := cs.take off ++ xs ++ cs.drop (off + xs.length)

def fillA : List AV → List (Nat × Nat × List AV) → Option (List AV)
  | cs, [] => some cs
  | cs, (off, sz, xs) :: r => bif (Nat.beq xs.length sz && Nat.ble (off + sz) cs.length) then fillA (splice cs off xs) r else none

def repA (zero : List AV) : Nat → List AV
  | 0 => []
  | n + 1 => zero ++ repA zero n

def abin (op : BinOp) (x y : Value) : Option Value :=
  match x, y with
  | .int k a, .int k' b =>
    match op with
    | .shl => if b < 0 then none else some (.int k (k.wrap (a * 2 ^ (Nat.min b.toNat k.bits))))
    | .shr => if b < 0 then none else some (.int k (a.fdiv (2 ^ (Nat.min b.toNat k.bits))))
    | .add => if k ≠ k' then none else some (.int k (k.wrap (a + b)))
    | .sub => if k ≠ k' then none else some (.int k (k.wrap (a - b)))
    | .mul => if k ≠ k' then none else some (.int k (k.wrap (a * b)))
    | .quo => if k ≠ k' then none else if b = 0 then none else some (.int k (k.wrap (a.tdiv b)))
    | .rem => if k ≠ k' then none else if b = 0 then none else some (.int k (a.tmod b))
    | .and => if k ≠ k' then none else some (.int k (k.wrap (BitVec.ofInt k.bits a &&& BitVec.ofInt k.bits b).toNat))
    | .or => if k ≠ k' then none else some (.int k (k.wrap (BitVec.ofInt k.bits a ||| BitVec.ofInt k.bits b).toNat))
    | .xor => if k ≠ k' then none else some (.int k (k.wrap (BitVec.ofInt k.bits a ^^^ BitVec.ofInt k.bits b).toNat))
    | .eql => if k ≠ k' then none else some (.bool (a == b))
    | .neq => if k ≠ k' then none else some (.bool (a != b))
    | .lss => if k ≠ k' then none else some (.bool (a < b))
    | .leq => if k ≠ k' then none else some (.bool (a ≤ b))
    | .gtr => if k ≠ k' then none else some (.bool (a > b))
    | .geq => if k ≠ k' then none else some (.bool (a ≥ b))
    | _ => none
  | .string a, .string b =>
    match op with
    | .eql => some (.bool (a.data.toList == b.data.toList))
    | .neq => some (.bool (!(a.data.toList == b.data.toList)))
    | .lss => some (.bool (Op.bytesLess a.data.toList b.data.toList))
    | .leq => some (.bool (Op.bytesLess a.data.toList b.data.toList || a.data.toList == b.data.toList))
    | .gtr => some (.bool (!(Op.bytesLess a.data.toList b.data.toList || a.data.toList == b.data.toList)))
    | .geq => some (.bool (!(Op.bytesLess a.data.toList b.data.toList)))
    | _ => none
  | _, _ => none

/-- Equality of two cells of a plain struct. -/
def eqCell (k : Nat) (x y : AV) : Option Bool :=
  match k, x, y with
  | 1, .v (.int k a), .v (.int k' b) => if k ≠ k' then none else some (a == b)
  | 0, .v (.bool a), .v (.bool b) => some (a == b)
  | 2, .v (.string a), .v (.string b) => some (a.data.toList == b.data.toList)
  | _, _, _ => none
def eqCells : List Nat → List AV → List AV → Option Bool
  | [], [], [] => some true
  | k :: ks, x :: xs, y :: ys =>
    match eqCell k x y with
    | none => none
    | some b => match eqCells ks xs ys with
      | none => none
      | some r => some (b && r)
  | _, _, _ => none

def aun (op : UnOp) (x : Value) : Option Value :=
  match op, x with
  | .neg, .int k n => some (.int k (k.wrap (0 - n)))
  | .xor, .int k n => some (.int k (k.wrap (BitVec.ofInt k.bits (if k.signed then -1 else k.max) ^^^ BitVec.ofInt k.bits n).toNat))
  | .not, .bool b => some (.bool !b)
  | _, _ => none

def bytesOf : List AV → Option (List UInt8)
  | [] => some []
  | .v (.int .u8 n) :: r => (bytesOf r).map (UInt8.ofNat n.toNat :: ·)
  | _ :: _ => none
def cellsOfBytes : List UInt8 → List AV
  | [] => []
  | b :: r => .v (.int .u8 b.toNat) :: cellsOfBytes r

/-! ### Memory -/
def loadA (H : Heap) (agg : Bool) (sz : Nat) : AV → Option AV
  | .ptr c off =>
    match hget H c with
    | none => none
    | some ch => bif agg then (bif Nat.ble (off + sz) ch.cells.length then some (.agg ((ch.cells.drop off).take sz)) else none) else ch.cells[off]?
  | .eptr cells => bif agg then (bif Nat.ble sz cells.length then some (.agg (cells.take sz)) else none) else cells[0]?
  | _ => none

def storeA (H : Heap) (sz : Nat) (a x : AV) : Option Heap :=
  match a with
  | .ptr c off =>
    match hget H c with
    | none => none
    | some ch =>
      let xs := x.cells
      bif Nat.beq xs.length sz && Nat.ble (off + sz) ch.cells.length && oneAll xs then some (hset H c { ch with cells := splice ch.cells off xs }) else none
  | _ => none

/-- The cells of the first n elements of a slice (or the bytes of a string). -/
def elemsA (H : Heap) (esz n : Nat) : AV → Option (List AV)
  | .osl c off len e _ =>
    match hget H c with
    | none => none
    | some ch => bif Nat.beq e esz && Nat.ble n len && Nat.ble (off + n * esz) ch.cells.length then some ((ch.cells.drop off).take (n * esz)) else none
  | .fsl len cells => bif Nat.ble n len && Nat.ble (n * esz) cells.length then some (cells.take (n * esz)) else none
  | .v (.slice none _ _) => bif Nat.beq n 0 then some [] else none
  | .v (.string s) => bif Nat.beq esz 1 && Nat.ble n s.size then some (cellsOfBytes (s.data.toList.take n)) else none
  | _ => none

def lenA : AV → Option Nat
  | .osl _ _ len _ _ => some len
  | .fsl len _ => some len
  | .v (.slice _ n _) => some n
  | .v (.string s) => some s.size
  | _ => none

/-- The length of what is no string. -/
def dlenA : AV → Option Nat
  | .v (.string _) => none
  | a => lenA a
def intA : AV → Option Int
  | .v (.int _ n) => some n
  | _ => none
def boolA : AV → Option Bool
  | .v (.bool b) => some b
  | _ => none

def mapO {α β : Type} (f : α → Option β) : List α → Option (List β)
  | [] => some []
  | x :: xs => match f x with
    | none => none
    | some y => match mapO f xs with
      | none => none
      | some ys => some (y :: ys)

/-- A value as a tree: what lies in memory of the call's own is told as it is now. fresh: nothing may be of what came in. -/
def frz (fresh : Bool) (H : Heap) : Nat → AV → Option AV
  | 0, _ => none
  | n + 1, a =>
    match a with
    | .v x => match x with
      | .slice (some _) _ _ => bif fresh then none else some a
      | .pointer (some _) => bif fresh then none else some a
      | _ => some a
    | .ptr c off => match hget H c with
      | none => none
      | some ch => (mapO (frz fresh H n) (ch.cells.drop off)).map .eptr
    | .eptr _ => bif fresh then none else some a
    | .osl c off len esz _ => match hget H c with
      | none => none
      | some ch => bif Nat.ble (off + len * esz) ch.cells.length then (mapO (frz fresh H n) ((ch.cells.drop off).take (len * esz))).map (.fsl len) else none
    | .fsl _ _ => bif fresh then none else some a
    | .fn g caps => (mapO (frz fresh H n) caps).map (.fn g)
    | .agg cs => (mapO (frz fresh H n) cs).map .agg
    | .tup cs => (mapO (frz fresh H n) cs).map .tup

/-- Does it lead into the call's own memory? -/
def live : AV → Bool
  | .ptr _ _ => true
  | .osl _ _ _ _ _ => true
  | .fn _ caps => liveL caps
  | .agg cs => liveL cs
  | .tup cs => liveL cs
  | _ => false
where liveL : List AV → Bool
  | [] => false
  | a :: r => live a || liveL r

/-! ### One operation -/
inductive Out where
  | val (a : AV) (H : Heap)
  | call (g : Nat) (args : List AV)

def out (H : Heap) (o : Option AV) : Option Out := o.map (Out.val · H)

/-- What an optional bound is. -/
def optI (o : Option AV) (d : Nat) : Option Nat := match o with
  | none => some d
  | some a => match intA a with
    | none => none
    | some n => if n < 0 then none else some n.toNat
def sliceA (esz : Nat) (x : AV) (lo hi mx : Option AV) : Option AV :=
  bif mx.isSome && !hi.isSome then none else
  match x with
  | .osl c off len e lb =>
    match optI lo 0, optI hi len, optI mx lb with
    | some l, some h, some m => bif Nat.beq e esz && Nat.ble l h && Nat.ble h m && Nat.ble m lb then some (.osl c (off + l * esz) (h - l) esz (m - l)) else none
    | _, _, _ => none
  | .fsl len cells =>
    match optI lo 0, optI hi len, optI mx len with
    | some l, some h, some m => bif Nat.ble l h && Nat.ble h m && Nat.ble m len && Nat.beq cells.length (len * esz) then some (.fsl (h - l) ((cells.drop (l * esz)).take ((h - l) * esz))) else none
    | _, _, _ => none
  | .v (.slice none 0 0) =>
    match optI lo 0, optI hi 0, optI mx 0 with
    | some 0, some 0, some 0 => some x
    | _, _, _ => none
  | _ => none

def sliceSA (x : AV) (lo hi : Option AV) : Option AV :=
  match x with
  | .v (.string s) =>
    match optI lo 0, optI hi s.size with
    | some l, some h => bif Nat.ble l h && Nat.ble h s.size then some (.v (.string (s.extract l h))) else none
    | _, _ => none
  | _ => none
def appendA (id ty esz bytes : Nat) (H : Heap) (s x : AV) : Option (AV × Heap) :=
  match lenA x with
  | none => none
  | some k =>
    match elemsA H esz k x with
    | none => none
    | some new =>
      match s with
      | .v (.slice none 0 0) =>
        bif Nat.beq k 0 then some (s, H) else
        bif Nat.ble (2 * k * bytes) 281474976710656 && Nat.ble k 140737488355328 then some (.osl id 0 k esz k, (id, ⟨ty, new⟩) :: H) else none
      | .osl c off len e lb =>
        match hget H c with
        | none => none
        | some ch =>
          bif Nat.beq e esz && Nat.beq ch.ty ty && Nat.ble (off + len * esz) ch.cells.length && oneAll new then
            bif Nat.beq k 0 then some (s, H) else
            bif Nat.ble (len + k) lb then
              bif Nat.ble (off + (len + k) * esz) ch.cells.length then some (.osl c off (len + k) esz lb, hset H c { ch with cells := splice ch.cells (off + len * esz) new }) else none
            else bif Nat.beq off 0 && Nat.ble (2 * (len + k) * bytes) 281474976710656 && Nat.ble (len + k) 140737488355328 then
              some (.osl id 0 (len + k) esz (len + k), (id, ⟨ty, ch.cells.take (len * esz) ++ new⟩) :: hdel H c)
            else none
          else none
      | .fsl _ _ => bif Nat.beq k 0 then some (s, H) else none
      | _ => none

def faddrA (off : Nat) : AV → Option AV
  | .ptr c o => some (.ptr c (o + off))
  | .eptr cs => some (.eptr (cs.drop off))
  | _ => none
def iaddrA (esz : Nat) (n : Int) : AV → Option AV
  | .osl c off len e _ => if 0 ≤ n ∧ n < len ∧ e = esz then some (.ptr c (off + n.toNat * esz)) else none
  | .fsl len cells => if 0 ≤ n ∧ n < len then some (.eptr (cells.drop (n.toNat * esz))) else none
  | _ => none
def aaddrA (esz : Nat) (n : Int) : AV → Option AV
  | .ptr c off => some (.ptr c (off + n.toNat * esz))
  | .eptr cells => some (.eptr (cells.drop (n.toNat * esz)))
  | _ => none
def foldM (mx : Bool) (k : IntKind) : Int → List AV → Option AV
  | x, [] => some (.v (.int k x))
  | x, .v (.int _ y) :: r => foldM mx k (bif mx then (if y > x then y else x) else (if y < x then y else x)) r
  | _, _ => none
def maxA (mx : Bool) : List AV → Option AV
  | .v (.int k x) :: r => foldM mx k x r
  | _ => none

def aop (op : AOp) (tm : TM) (id : Nat) (H : Heap) : Option Out :=
  match op with
  | .move x => some (.val (x.ev tm) H)
  | .pick c a b => match boolA (c.ev tm) with
    | none => none
    | some t => some (.val (bif t then a.ev tm else b.ev tm) H)
  | .alloc ty zero => some (.val (.ptr id 0) ((id, ⟨ty, zero⟩) :: H))
  | .box ty sz x => let cs := (x.ev tm).cells; bif Nat.beq cs.length sz then some (.val (.ptr id 0) ((id, ⟨ty, cs⟩) :: H)) else none
  | .build zero parts => out H ((fillA zero (parts.map fun p => (p.1, p.2.1, (p.2.2.ev tm).cells))).map .agg)
  | .buildSlice ty esz len zero parts =>
    match fillA (repA zero len) (parts.map fun p => (p.1, p.2.1, (p.2.2.ev tm).cells)) with
    | none => none
    | some cs => some (.val (.osl id 0 len esz len) ((id, ⟨ty, cs⟩) :: H))
  | .load agg sz x => out H (loadA H agg sz (x.ev tm))
  | .store sz a x => (storeA H sz (a.ev tm) (x.ev tm)).map (.val aundef ·)
  | .nilChk x => match x.ev tm with
    | .ptr c off => some (.val (.ptr c off) H)
    | .eptr cs => some (.val (.eptr cs) H)
    | .fn g cs => some (.val (.fn g cs) H)
    | _ => none
  | .bin op x y => match x.ev tm, y.ev tm with
    | .v a, .v b => out H ((abin op a b).map .v)
    | _, _ => none
  | .beq neg x y => match x.ev tm, y.ev tm with
    | .v (.bool a), .v (.bool b) => some (.val (.v (.bool (bif neg then !(a == b) else a == b))) H)
    | _, _ => none
  | .eqAgg neg ks x y => match x.ev tm, y.ev tm with
    | .agg a, .agg b => out H ((eqCells ks a b).map fun r => .v (.bool (bif neg then !r else r)))
    | _, _ => none
  | .eqNilS neg x => match x.ev tm with
    | .v (.slice none _ _) => some (.val (.v (.bool !neg)) H)
    | .osl _ _ _ _ _ => some (.val (.v (.bool neg)) H)
    | .fsl _ _ => some (.val (.v (.bool neg)) H)
    | _ => none
  | .eqNilP neg x => match x.ev tm with
    | .v (.pointer none) => some (.val (.v (.bool !neg)) H)
    | .ptr _ _ => some (.val (.v (.bool neg)) H)
    | .eptr _ => some (.val (.v (.bool neg)) H)
    | _ => none
  | .un op x => match x.ev tm with
    | .v a => out H ((aun op a).map .v)
    | _ => none
  | .conv k x => match x.ev tm with
    | .v (.int _ n) => some (.val (.v (.int k (k.wrap n))) H)
    | _ => none
  | .convS x => match x.ev tm with
    | .v (.string s) => some (.val (.v (.string s)) H)
    | _ => none
  | .b2s x => match x.ev tm with
    | .v (.slice none _ _) => some (.val (.v (.string ⟨#[]⟩)) H)
    | .v _ => none
    | a => match lenA a with
      | none => none
      | some n => match elemsA H 1 n a with
        | none => none
        | some cs => out H ((bytesOf cs).map fun bs => .v (.string ⟨bs.toArray⟩))
  | .s2b x => match x.ev tm with
    | .v (.string s) => some (.val (.fsl s.size (cellsOfBytes s.data.toList)) H)
    | _ => none
  | .mkfn g caps => some (.val (.fn g (caps.map (·.ev tm))) H)
  | .mkslice ty esz bytes zero len cap => match intA (len.ev tm), intA (cap.ev tm) with
    | some l, some c =>
      if 0 ≤ l ∧ l ≤ c ∧ (bytes : Int) * c ≤ 140737488355328 ∧ c ≤ 140737488355328 then some (.val (.osl id 0 l.toNat esz c.toNat) ((id, ⟨ty, repA zero c.toNat⟩) :: H)) else none
    | _, _ => none
  | .slice esz x lo hi mx => out H (sliceA esz (x.ev tm) (lo.map (·.ev tm)) (hi.map (·.ev tm)) (mx.map (·.ev tm)))
  | .sliceS x lo hi => out H (sliceSA (x.ev tm) (lo.map (·.ev tm)) (hi.map (·.ev tm)))
  | .faddr off x => out H (faddrA off (x.ev tm))
  | .field agg off sz x => match x.ev tm with
    | .agg cs => bif agg then (bif Nat.ble (off + sz) cs.length then some (.val (.agg ((cs.drop off).take sz)) H) else none) else out H cs[off]?
    | _ => none
  | .iaddr esz x i => match intA (i.ev tm) with
    | none => none
    | some n => out H (iaddrA esz n (x.ev tm))
  | .aaddr esz len x i => match intA (i.ev tm) with
    | none => none
    | some n => if 0 ≤ n ∧ n < len then out H (aaddrA esz n (x.ev tm)) else none
  | .index x i => match x.ev tm, intA (i.ev tm) with
    | .v (.string s), some n => if 0 ≤ n then out H ((s.data.toList[n.toNat]?).map fun b => .v (.int .u8 b.toNat)) else none
    | _, _ => none
  | .aindex agg esz len x i => match x.ev tm, intA (i.ev tm) with
    | .agg cs, some n => if 0 ≤ n ∧ n < len then
        (bif agg then (bif Nat.ble (n.toNat * esz + esz) cs.length then some (.val (.agg ((cs.drop (n.toNat * esz)).take esz)) H) else none) else out H cs[n.toNat * esz]?) else none
    | _, _ => none
  | .ext x i => match x.ev tm with
    | .tup vs => out H vs[i]?
    | _ => none
  | .call g args => some (.call g (args.map (·.ev tm)))
  | .callv f args => match f.ev tm with
    | .fn g caps => some (.call g (args.map (·.ev tm) ++ caps))
    | _ => none
  | .len x => match x.ev tm with
    | .v (.string _) => none
    | a => out H ((lenA a).map fun n => .v (.int .i64 n))
  | .lenS x => match x.ev tm with
    | .v (.string s) => some (.val (.v (.int .i64 s.size)) H)
    | _ => none
  | .append ty esz bytes s x => (appendA id ty esz bytes H (s.ev tm) (x.ev tm)).map fun p => .val p.1 p.2
  | .copy esz d s => match dlenA (d.ev tm), lenA (s.ev tm) with
    | some dl, some sl =>
      let n := Nat.min sl dl
      match elemsA H esz n (s.ev tm) with
      | none => none
      | some cs => bif Nat.beq n 0 then some (.val (.v (.int .i64 0)) H) else
        match d.ev tm with
        | .osl c off _ e _ => match hget H c with
          | none => none
          | some ch => bif Nat.beq e esz && Nat.ble (off + n * esz) ch.cells.length && oneAll cs then some (.val (.v (.int .i64 n)) (hset H c { ch with cells := splice ch.cells off cs })) else none
        | _ => none
    | _, _ => none
  | .clear esz zero s => match s.ev tm with
    | .v (.slice none _ _) => some (.val aundef H)
    | .osl c off len e _ => bif Nat.beq len 0 then some (.val aundef H) else match hget H c with
      | none => none
      | some ch => bif Nat.beq e esz && Nat.beq zero.length esz && Nat.ble (off + len * esz) ch.cells.length && oneAll zero then some (.val aundef (hset H c { ch with cells := splice ch.cells off (repA zero len) })) else none
    | _ => none
  | .max xs => out H (maxA true (xs.map (·.ev tm)))
  | .min xs => out H (maxA false (xs.map (·.ev tm)))
  | .bad => none

/-- slices.Insert(s, i, v...), v not empty. -/
def insertA (ty esz bytes : Nat) (id : Nat) (args : List AV) (H : Heap) : Option (AV × Heap) :=
  match args with
  | [s, .v (.int .i64 i), v] =>
    match lenA s, lenA v with
    | some n, some k =>
      match elemsA H esz n s, elemsA H esz k v with
      | some old, some new =>
        if 0 ≤ i ∧ i ≤ n ∧ 0 < k ∧ 4 * (n + k) * bytes ≤ 281474976710656 then
          let cells := old.take (i.toNat * esz) ++ new ++ old.drop (i.toNat * esz)
          match s with
          | .v (.slice none 0 0) => some (.osl id 0 (n + k) esz (n + k), (id, ⟨ty, cells⟩) :: H)
          | .osl c 0 _ _ _ => match hget H c with
            | none => none
            | some ch => bif Nat.beq ch.ty ty then some (.osl id 0 (n + k) esz (n + k), (id, ⟨ty, cells⟩) :: hdel H c) else none
          | _ => none
        else none
      | _, _ => none
    | _, _ => none
  | _ => none

/-- The comparison of two strings. -/
def cmpA (_id : Nat) (args : List AV) (H : Heap) : Option (AV × Heap) :=
  match args with
  | [.v (.string a), .v (.string b)] => some (.v (.int .i64 (Extern.BytealgCompare.cmp a b)), H)
  | _ => none

/-! ### Calls and regions -/
inductive AEntry where
  | code (f : AFun) (m : Bool → List AV → Option AV)     -- m: answers that are known, at trees; true: they must be of nothing that came in
  | prim (p : Nat → List AV → Heap → Option (AV × Heap))

abbrev Table := Nat → Option AEntry
def noM : Bool → List AV → Option AV := fun _ _ => none
/-- A table with answers that are known. -/
def withM (T : Table) (mm : Nat → Bool → List AV → Option AV) : Table := fun g => match T g with
  | some (.code f _) => some (.code f (mm g))
  | e => e

def resA (tm : TM) (H : Heap) : ARes → Option AV
  | .t t => some (tget tm t)
  | .cell t agg sz => loadA H agg sz (tget tm t)
def resultsA (tm : TM) (H : Heap) (rs : List ARes) : Option AV :=
  match mapO (resA tm H) rs with
  | none => none
  | some [a] => some a
  | some as => some (.tup as)

def padA (args : List AV) (n : Nat) : TM := putT (blankT 12 n) 0 args

abbrev Exec := ACode → St → Option (AEx × St)

def runF (ex : Exec) (f : AFun) (args : List AV) (H : Heap) (nx : Nat) : Option (AV × Heap × Nat) :=
  bif Nat.ble args.length f.ntmps && Nat.ble f.ntmps 4096 then
    match ex f.body ⟨padA args f.ntmps, H, nx⟩ with
    | some (.normal, s) | some (.ret, s) =>
      match resultsA s.tm s.H f.results with
      | none => none
      | some r => some (r, s.H, s.nx)
    | _ => none
  else none

def depthA : Nat := 16

/-- The chunks that a value leads to. -/
def flatA (f : AV → List Nat) : List AV → List Nat
  | [] => []
  | a :: r => f a ++ flatA f r
def reachA (H : Heap) : Nat → AV → List Nat
  | 0, _ => []
  | n + 1, a =>
    match a with
    | .ptr c _ => c :: (match hget H c with
      | none => []
      | some ch => flatA (reachA H n) ch.cells)
    | .osl c _ _ _ _ => c :: (match hget H c with
      | none => []
      | some ch => flatA (reachA H n) ch.cells)
    | .fn _ cs => flatA (reachA H n) cs
    | .agg cs => flatA (reachA H n) cs
    | .tup cs => flatA (reachA H n) cs
    | _ => []
def memN (c : Nat) : List Nat → Bool
  | [] => false
  | k :: r => bif Nat.beq k c then true else memN c r
/-- The part of a memory whose chunks are among some (b), or not. -/
def hpart (b : Bool) (ids : List Nat) : Heap → Heap
  | [] => []
  | (k, ch) :: r => bif (memN k ids == b) then (k, ch) :: hpart b ids r else hpart b ids r

def callF (T : Table) (ex : Exec) (id : Nat) (g : Nat) (args : List AV) (H : Heap) (nx : Nat) : Option (AV × Heap × Nat) :=
  match T g with
  | none => none
  | some (.prim p) => match p id args H with
    | none => none
    | some (r, H') => some (r, H', nx)
  | some (.code f m) =>
    bif f.own then
      match mapO (frz false H depthA) args with
      | none => none
      | some args' => match m (live.liveL args) args' with
        | some r' => some (r', H, nx)
        | none => match runF ex f args' [] 0 with
          | none => none
          | some (r, H2, _) => match frz (live.liveL args) H2 depthA r with
            | none => none
            | some r' => some (r', H, nx)
    else
      let ids := flatA (reachA H depthA) args
      match runF ex f args (hpart true ids H) nx with
      | none => none
      | some (r, H2, nx') => some (r, hpart true (flatA (reachA H2 depthA) (r :: args)) H2 ++ hpart false ids H, nx')

def goes (tm : TM) (o : AOper) : Bool :=
  match o.guard with
  | none => true
  | some (t, want) => match tget tm t with
    | .v (.bool b) => b == want
    | _ => false
def St.put (s : St) (o : AOper) (a : AV) : St := match o.dst with
  | none => s
  | some d => { s with tm := tset s.tm d a }

def opA (T : Table) (ex : Exec) (id : Nat) (o : AOper) (s : St) : Option St :=
  bif goes s.tm o then
    match aop o.op s.tm id s.H with
    | none => none
    | some (.val a H) => some ({ s with H := H }.put o a)
    | some (.call g args) => match callF T ex id g args s.H s.nx with
      | none => none
      | some (a, H, nx) => some ({ s with H := H, nx := nx }.put o a)
  else some (s.put o aundef)

def regOps (T : Table) (ex : Exec) (base : Nat) : List AOper → Nat → St → Option St
  | [], _, s => some s
  | o :: os, i, s => match opA T ex (base + i) o s with
    | none => none
    | some s' => regOps T ex base os (i + 1) s'

/-- The chunks that an operation looks at, or changes. -/
def shA (a : AV) : List Nat := match a with
  | .ptr c _ => [c]
  | .osl c _ _ _ _ => [c]
  | _ => []
def touchA (tm : TM) (H : Heap) (op : AOp) : List Nat :=
  match op with
  | .load _ _ x => shA (x.ev tm)
  | .b2s x => shA (x.ev tm)
  | .store _ a _ => shA (a.ev tm)
  | .append _ _ _ s x => shA (s.ev tm) ++ shA (x.ev tm)
  | .copy _ d s => shA (d.ev tm) ++ shA (s.ev tm)
  | .clear _ _ s => shA (s.ev tm)
  | .call _ args => flatA (reachA H depthA) (args.map (·.ev tm))
  | .callv f args => flatA (reachA H depthA) (f.ev tm :: args.map (·.ev tm))
  | _ => []
/-- May it look at memory? -/
def AOp.looks : AOp → Bool
  | .load _ _ _ => true
  | .b2s _ => true
  | .store _ _ _ => true
  | .append _ _ _ _ _ => true
  | .copy _ _ _ => true
  | .clear _ _ _ => true
  | .call _ _ => true
  | .callv _ _ => true
  | _ => false
def ownG (T : Table) (g : Nat) : Bool := match T g with
  | some (.code f _) => f.own
  | _ => false
def inG (T : Table) (g : Nat) : Bool := match T g with
  | some (.code f _) => !f.own
  | _ => false
/-- May it make memory, or change it? -/
def AOp.makes (T : Table) : AOp → Bool
  | .alloc _ _ => true
  | .box _ _ _ => true
  | .buildSlice _ _ _ _ _ => true
  | .mkslice _ _ _ _ _ _ => true
  | .store _ _ _ => true
  | .append _ _ _ _ _ => true
  | .copy _ _ _ => true
  | .clear _ _ _ => true
  | .call g _ => !ownG T g
  | .callv _ _ => true
  | _ => false
/-- May it number new memory beyond its own? -/
def AOp.numbers (T : Table) : AOp → Bool
  | .call g _ => inG T g
  | .callv _ _ => true
  | _ => false

/-- What one operation did: its answer, what it looked at, what it set anew. -/
structure DR where
  r : AV
  rd : List Nat
  wr : List Nat
  H2 : Heap
  nx : Nat
def hin (t : List Nat) (H : Heap) : Heap := match t with
  | [] => []
  | _ => hpart true t H
def hout (t : List Nat) (H : Heap) : Heap := match t with
  | [] => H
  | _ => hpart false t H
def dopA (T : Table) (ex : Exec) (id : Nat) (o : AOper) (s : St) : Option DR :=
  bif goes s.tm o then
    let t := touchA s.tm s.H o.op
    let Hc := hin t s.H
    match aop o.op s.tm id Hc with
    | none => none
    | some (.val a H2) => some (bif o.op.makes T then ⟨a, t, t, H2, s.nx⟩ else ⟨a, t, [], [], s.nx⟩)
    | some (.call g args) => match callF T ex id g args Hc s.nx with
      | none => none
      | some (a, H2, nx) => some (bif o.op.makes T then ⟨a, t, t, H2, bif o.op.numbers T then nx else s.nx⟩ else ⟨a, t, [], [], s.nx⟩)
  else some ⟨aundef, [], [], [], s.nx⟩
def dput (s : St) (dst : Option Nat) (d : DR) : St :=
  { tm := match dst with
      | none => s.tm
      | some k => tset s.tm k d.r
    H := d.H2 ++ hout d.wr s.H
    nx := d.nx }
/-- A region whose order is open, in the order of the text. -/
def dregOps (T : Table) (ex : Exec) (base : Nat) : List AOper → Nat → St → Option (List DR × St)
  | [], _, s => some ([], s)
  | o :: os, i, s => match dopA T ex (base + i) o s with
    | none => none
    | some d => match dregOps T ex base os (i + 1) (dput s o.dst d) with
      | none => none
      | some (ds, s') => some (d :: ds, s')
def keysA : Heap → List Nat
  | [] => []
  | (k, _) :: r => k :: keysA r
def apartN (a b : List Nat) : Bool := match a with
  | [] => true
  | x :: r => !memN x b && apartN r b
def DR.dm (d : DR) : List Nat := d.wr ++ keysA d.H2
def apartD (x y : DR) : Bool := apartN x.rd y.dm && apartN x.dm y.rd && apartN x.dm y.dm
def getD (ds : List DR) (i : Nat) : DR := match ds, i with
  | [], _ => ⟨aundef, [], [], [], 0⟩
  | d :: _, 0 => d
  | _ :: r, i + 1 => getD r i
def chkU (ds : List DR) (d : DR) : List Nat → Bool
  | [] => true
  | k :: r => apartD (getD ds k) d && chkU ds d r
def chkD (all : List DR) : List AOper → List DR → Bool
  | o :: os, d :: ds => chkU all d o.un && chkD all os ds
  | _, _ => true

def findL : ACode → Nat → Option ACode
  | .seq a b, l => match findL a l with
    | some r => some (.seq r b)
    | none => findL b l
  | .label l', l => bif Nat.beq l' l then some .skip else none
  | _, _ => none

def step (T : Table) (ex : Exec) : Exec := fun c s =>
  match c with
  | .skip => some (.normal, s)
  | .region ops => (regOps T ex s.nx ops 0 { s with nx := s.nx + ops.length }).map (Prod.mk .normal)
  | .dregion ops => match dregOps T ex s.nx ops 0 { s with nx := s.nx + ops.length } with
    | none => none
    | some (ds, s') => bif chkD ds ops ds then some (.normal, s') else none
  | .seq a b => match ex a s with
    | some (.normal, s') => ex b s'
    | r => r
  | .cond c a b => match c.ev s.tm with
    | .v (.bool true) => ex a s
    | .v (.bool false) => ex b s
    | _ => none
  | .block id c => match ex c s with
    | some (.exit id', s') => bif Nat.beq id' id then some (.normal, s') else some (.exit id', s')
    | r => r
  | .loop c => match ex c s with
    | some (.normal, s') => ex (.loop c) s'
    | r => r
  | .exit id => some (.exit id, s)
  | .scope c cur => match ex cur s with
    | some (.goto l, s') => match findL c l with
      | none => some (.goto l, s')
      | some r => ex (.scope c r) s'
    | r => r
  | .label _ => some (.normal, s)
  | .goto l => some (.goto l, s)
  | .ret => some (.ret, s)

def exec (T : Table) : Nat → Exec
  | 0 => fun _ _ => none
  | n + 1 => step T (exec T n)

/-- A call from outside: the answer as a tree. -/
def runA (T : Table) (n : Nat) (g : Nat) (args : List AV) : Option AV :=
  match T g with
  | some (.code f _) => match runF (exec T n) f args [] 0 with
    | none => none
    | some (r, H, _) => frz false H depthA r
  | _ => none

/-- What a function of its own memory tells of trees. -/
def ownA (T : Table) (n : Nat) (g : Nat) (b : Bool) (args : List AV) : Option AV :=
  match T g with
  | some (.code f _) => match runF (exec T n) f args [] 0 with
    | none => none
    | some (r, H, _) => frz b H depthA r
  | _ => none

/-- A table as a tree. -/
inductive Tab where
  | nil
  | node (l : Tab) (k : Nat) (e : AEntry) (r : Tab)
def Tab.get : Tab → Nat → Option AEntry
  | .nil, _ => none
  | .node l k e r, g => bif Nat.beq g k then some e else bif Nat.blt g k then l.get g else r.get g

end Go.Am
