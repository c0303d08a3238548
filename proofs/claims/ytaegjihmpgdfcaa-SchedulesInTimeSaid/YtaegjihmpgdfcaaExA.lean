/- The abstract machine: pure values, logical blocks, small commands, and what a command computes (a weakest precondition). -/
import Derived.Orders
import Derived.Below
import Derived.KernelRfl
import Derived.Calls
set_option linter.unusedVariables false
namespace Go.Ex
/-- A pure value. -/
inductive V where
  | int (k : IntKind) (n : Int)
  | bool (b : Bool)
  | str (s : List UInt8)
  | agg (cs : List V)
  | tup (vs : List V)
  | ro (n : Nat) (cs : List V)
  | rp (cs : List V) (off : Nat)
  | sl (id ver off len : Nat) (cap : Option Nat)
  | pt (id ver off : Nat)
  | ns
  | em
  | ne
  | np
  | fn (f : Nat) (caps : List V)
  | mp (id ver : Nat)
  | junk
  deriving Inhabited
structure LB where
  ver : Nat
  esz : Nat
  cells : List V
  mp : Option (List (V × V))
abbrev Hp := Nat → Option LB
def upd {α : Type} (f : Nat → α) (i : Nat) (x : α) : Nat → α := fun j => if j = i then x else f j
def V.cells : V → List V
  | .agg cs => cs
  | v => [v]
mutual
/-- No reference into the blocks. -/
def V.pure : V → Bool
  | .int .. | .bool _ | .str _ => true
  | .ro _ cs => V.pureL cs
  | .agg cs => V.pureL cs
  | .tup cs => V.pureL cs
  | _ => false
def V.pureL : List V → Bool
  | [] => true
  | v :: l => V.pure v && V.pureL l
end
/-- An operand. -/
inductive X where
  | t (n : Nat)
  | c (v : V)
inductive Cop where
  | mov (x : X)
  | pick (c a b : X)
  | bin (op : BinOp) (x y : X)
  | beq (neg : Bool) (x y : X)
  | seq (neg : Bool) (tags : List Nat) (x y : X)
  | never
  | isnil (sl neg : Bool) (x : X)
  | un (op : UnOp) (x : X)
  | conv (k : IntKind) (x : X)
  | s2b (x : X)
  | b2s (x : X)
  | len (str : Bool) (x : X)
  | strc (x : X)
  | mm (mx : Bool) (x y : X)
  | ext (x : X) (i : Nat)
  | fld (x : X) (off : Nat) (sz : Option Nat)
  | idx (x i : X)
  | faddr (x : X) (off : Nat)
  | iaddr (x i : X) (esz : Nat)
  | ld (x : X) (sz : Option Nat)
  | st (x v : X) (n : Nat)
  | box (x : X)
  | alloc (cs : List V)
  | bs (len esz : Nat) (zero : List V) (parts : List (Nat × X))
  | bld (zero : List V) (parts : List (Nat × Nat × X))
  | mk (esz bytes : Nat) (zero : List V) (l c : X)
  | slc (str : Bool) (x : X) (lo hi : Option X) (esz : Nat)
  | app (esz bytes : Nat) (x y : X)
  | fnc (f : Nat) (caps : List X)
  | call (f : Nat) (args : List X)
  | shr (f : Nat) (args : List X)
  | shq (f : Nat) (args : List X)
  | calv (x : X) (args : List X)
  | nilc (x : X)
  | mlen (x : X)
  | mnew
  | mget (ok : Bool) (kt : Option IntKind) (zero : V) (x k : X)
  | mset (kt : Option IntKind) (x k v : X)
  | cpy (x y : X)
  | clr (x : X) (esz : Nat) (zero : List V)
  | mrk (x : X)
  | sla (x : X) (lo hi : Option X) (n esz : Nat)
  | ala (esz : Nat) (cs : List V)
  | bro (len esz : Nat) (zero : List V) (parts : List (Nat × X))
structure Ins where
  dst : Option Nat
  g : Option (Nat × Bool)
  op : Cop
  cf : List Nat
inductive Cmd where
  | skip
  | reg (dr : Bool) (l : List Ins)
  | seq (a b : Cmd)
  | cond (c : X) (a b : Cmd)
  | block (id : Nat) (c : Cmd)
  | loop (c : Cmd)
  | exit (id : Nat)
  | ret
def X.ev (t : Nat → V) : X → V
  | .t n => t n
  | .c v => v
def intA (op : BinOp) (k : IntKind) (a b : Int) : Option V :=
  match op with
  | .add => some (.int k (k.wrap (a + b)))
  | .sub => some (.int k (k.wrap (a - b)))
  | .mul => some (.int k (k.wrap (a * b)))
  | .quo => if b = 0 then none else some (.int k (k.wrap (a.tdiv b)))
  | .rem => if b = 0 then none else some (.int k (a.tmod b))
  | .and => some (.int k (k.wrap (BitVec.ofInt k.bits a &&& BitVec.ofInt k.bits b).toNat))
  | .or => some (.int k (k.wrap (BitVec.ofInt k.bits a ||| BitVec.ofInt k.bits b).toNat))
  | .xor => some (.int k (k.wrap (BitVec.ofInt k.bits a ^^^ BitVec.ofInt k.bits b).toNat))
  | .andNot => some (.int k (k.wrap (BitVec.ofInt k.bits a &&& ~~~BitVec.ofInt k.bits b).toNat))
  | .eql => some (.bool (a == b))
  | .neq => some (.bool (a != b))
  | .lss => some (.bool (decide (a < b)))
  | .leq => some (.bool (decide (a ≤ b)))
  | .gtr => some (.bool (decide (a > b)))
  | .geq => some (.bool (decide (a ≥ b)))
  | _ => none
def strA (op : BinOp) (a b : List UInt8) : Option V :=
  match op with
  | .add => if ((a.length + b.length : Nat) : Int) > 2 ^ 62 then none else some (.str (a ++ b))
  | .eql => some (.bool (a == b))
  | .neq => some (.bool (!(a == b)))
  | .lss => some (.bool (Op.bytesLess a b))
  | .leq => some (.bool (Op.bytesLess a b || a == b))
  | .gtr => some (.bool (!(Op.bytesLess a b || a == b)))
  | .geq => some (.bool (!Op.bytesLess a b))
  | _ => none
def binA (op : BinOp) (x y : V) : Option V :=
  match x, y with
  | .int k a, .int k' b =>
    match op with
    | .shl => if b < 0 then none else some (.int k (k.wrap (a * 2 ^ (min b.toNat k.bits))))
    | .shr => if b < 0 then none else some (.int k (a.fdiv (2 ^ (min b.toNat k.bits))))
    | op => if k = k' then intA op k a b else none
  | .str a, .str b => strA op a b
  | _, _ => none
def unA (op : UnOp) (x : V) : Option V :=
  match op, x with
  | .neg, .int k n => some (.int k (k.wrap (0 - n)))
  | .xor, .int k n => some (.int k (k.wrap (BitVec.ofInt k.bits (if k.signed then -1 else k.max) ^^^ BitVec.ofInt k.bits n).toNat))
  | .not, .bool b => some (.bool !b)
  | _, _ => none
def tagOf : V → Nat
  | .int .. => 0
  | .bool _ => 1
  | .str _ => 2
  | _ => 3
/-- Cells of scalars held against each other. -/
def eqCells : List V → List V → Option Bool
  | [], [] => some true
  | .int k a :: r, .int k' b :: s => if k = k' then (eqCells r s).map fun e => (a == b) && e else none
  | .bool a :: r, .bool b :: s => (eqCells r s).map fun e => (a == b) && e
  | .str a :: r, .str b :: s => (eqCells r s).map fun e => (a == b) && e
  | _, _ => none
/-- Keys held against each other. -/
def keyEq : V → V → Option Bool
  | .int k a, .int k' b => if k = k' then some (a == b) else none
  | .bool a, .bool b => some (a == b)
  | .str a, .str b => some (a == b)
  | _, _ => none
/-- Where a key stands, and what stands there. -/
def kvFind (k : V) : List (V × V) → Nat → Option (Option (Nat × V))
  | [], _ => some none
  | e :: l, i => match keyEq k e.1 with
    | some true => some (some (i, e.2))
    | some false => kvFind k l (i + 1)
    | none => none
/-- Of the keys' kind. -/
def keyIs : Option IntKind → V → Bool
  | none, .str _ => true
  | some k, .int k' _ => decide (k = k')
  | _, _ => false
def kvPut (l : List (V × V)) (k v : V) : Option (Nat × V) → List (V × V)
  | none => l ++ [(k, v)]
  | some (i, _) => l.modify i fun _ => (k, v)
/-- What a reference reads: the cells and where it stands in them. -/
def view (h : Hp) : V → Option (List V × Nat)
  | .rp cs off => some (cs, off)
  | .pt id ver off => match h id with
    | some b => if b.ver = ver ∧ b.mp = none then some (b.cells, off) else none
    | none => none
  | _ => none
/-- A slice's elements' cells (n of size esz). -/
def elems (h : Hp) (esz : Nat) : V → Option (Nat × List V)
  | .ns => some (0, [])
  | .em => some (0, [])
  | .ne => some (0, [])
  | .ro n cs => if cs.length = n * esz then some (n, cs) else none
  | .sl id ver off len _ => match h id with
    | some b => if b.ver = ver ∧ b.mp = none ∧ b.esz = esz ∧ off + len * esz ≤ b.cells.length then some (len, (b.cells.drop off).take (len * esz)) else none
    | none => none
  | _ => none
def putL : List V → Nat → List V → List V
  | cs, _, [] => cs
  | cs, off, v :: r => putL (cs.set off v) (off + 1) r
/-- A cell's value as it reads now, with no reference (n: how deep). -/
def cellRO (h : Hp) : Nat → V → Option V
  | n, .sl id ver off len cap => match n with
    | 0 => none
    | n + 1 => match h id with
      | some b => if b.ver = ver ∧ b.mp = none ∧ off + len * b.esz ≤ b.cells.length then
          (if V.pureL ((b.cells.drop off).take (len * b.esz)) = true then some (.ro len ((b.cells.drop off).take (len * b.esz)))
           else (((b.cells.drop off).take (len * b.esz)).mapM (cellRO h n)).map (.ro len)) else none
      | none => none
  | _, .ns => some (.ro 0 [])
  | _, .em => some (.ro 0 [])
  | _, .ne => some (.ro 0 [])
  | _, .int k a => some (.int k a)
  | _, .bool a => some (.bool a)
  | _, .str a => some (.str a)
  | _, .ro n cs => some (.ro n cs)
  | _, _ => none
/-- A value as it reads now. -/
def toRO (h : Hp) (n : Nat) : V → Option V
  | .agg cs => if V.pureL cs = true then some (.agg cs) else (cs.mapM (cellRO h n)).map .agg
  | v => cellRO h n v
mutual
/-- Holds no slice that only reads. -/
def roFree : V → Bool
  | .ro _ [] => true
  | .ro _ (_ :: _) => false
  | .rp .. => false
  | .agg cs => roFreeL cs
  | .tup cs => roFreeL cs
  | .fn _ cs => roFreeL cs
  | _ => true
def roFreeL : List V → Bool
  | [] => true
  | v :: l => roFree v && roFreeL l
end
/-- Has cells that can be stored. -/
def V.storable : V → Bool
  | .junk | .tup _ => false
  | _ => true
structure R where
  v : V
  h : Hp
  nx : Nat
  rd : Option (List Nat)
  wr : Option (List Nat)
def idOf : V → List Nat
  | .pt id _ _ => [id]
  | .sl id _ _ _ _ => [id]
  | .mp id _ => [id]
  | _ => []
/-- Computes only. -/
def ret0 (h : Hp) (nx : Nat) (v : Option V) : Option R := v.map fun v => ⟨v, h, nx, some [], some []⟩
def fillA (esz : Nat) (ev : X → V) : List V → List (Nat × X) → Option (List V)
  | cs, [] => some cs
  | cs, (i, x) :: r => if (ev x).cells.length = esz ∧ i * esz + esz ≤ cs.length ∧ (ev x).storable = true then fillA esz ev (putL cs (i * esz) (ev x).cells) r else none
def fillS (ev : X → V) : List V → List (Nat × Nat × X) → Option (List V)
  | cs, [] => some cs
  | cs, (off, sz, x) :: r => if (ev x).cells.length = sz ∧ off + sz ≤ cs.length ∧ (ev x).storable = true then fillS ev (putL cs off (ev x).cells) r else none
def zeros (zero : List V) : Nat → List V
  | 0 => []
  | n + 1 => zero ++ zeros zero n
/-- Bounds of a slice expression. -/
def loHi (n : Nat) : Option V → Option V → Option (Nat × Nat)
  | none, none => some (0, n)
  | some (.int _ l), none => if 0 ≤ l ∧ l ≤ n then some (l.toNat, n) else none
  | none, some (.int _ m) => if 0 ≤ m ∧ m ≤ n then some (0, m.toNat) else none
  | some (.int _ l), some (.int _ m) => if 0 ≤ l ∧ l ≤ m ∧ m ≤ n then some (l.toNat, m.toNat) else none
  | _, _ => none
def bytesV (l : List UInt8) : List V := l.map fun b => .int .u8 b.toNat
def unbytes : List V → Option (List UInt8)
  | [] => some []
  | .int .u8 n :: l => (unbytes l).map (UInt8.ofNat n.toNat :: ·)
  | _ => none
def opA (c : Cop) (ev : X → V) (h : Hp) (nx : Nat) : Option R :=
  match c with
  | .mov x => ret0 h nx (some (ev x))
  | .pick c a b => match ev c with
    | .bool t => ret0 h nx (some (if t then ev a else ev b))
    | _ => none
  | .bin op x y => ret0 h nx (binA op (ev x) (ev y))
  | .beq neg x y => match ev x, ev y with
    | .bool a, .bool b => ret0 h nx (some (.bool (if neg then !(a == b) else a == b)))
    | _, _ => none
  | .seq neg tags x y => match ev x, ev y with
    | .agg a, .agg b => if a.map tagOf = tags then ret0 h nx ((eqCells a b).map fun e => .bool (if neg then !e else e)) else none
    | _, _ => none
  | .never => none
  | .isnil sl neg x => match sl, ev x with
    | false, .np => ret0 h nx (some (.bool !neg))
    | true, .ns => ret0 h nx (some (.bool !neg))
    | true, .ne => ret0 h nx (some (.bool neg))
    | false, .pt .. => ret0 h nx (some (.bool neg))
    | false, .rp .. => ret0 h nx (some (.bool neg))
    | true, .sl id ver _ _ _ => match h id with
      | some b => if b.ver = ver then some ⟨.bool neg, h, nx, some [id], some []⟩ else none
      | none => none
    | true, .ro n _ => if 0 < n then ret0 h nx (some (.bool neg)) else none
    | _, _ => none
  | .un op x => ret0 h nx (unA op (ev x))
  | .conv k x => match ev x with
    | .int _ n => ret0 h nx (some (.int k (k.wrap n)))
    | _ => none
  | .s2b x => match ev x with
    | .str s => some ⟨.sl nx 0 0 s.length none, upd h nx (some ⟨0, 1, bytesV s, none⟩), nx + 1, some [nx], some [nx]⟩
    | _ => none
  | .b2s x => match elems h 1 (ev x) with
    | some (_, cs) => (unbytes cs).map fun s => ⟨.str s, h, nx, some (idOf (ev x)), some []⟩
    | none => none
  | .strc x => match ev x with
    | .str s => ret0 h nx (some (.str s))
    | _ => none
  | .len str x => match str, ev x with
    | true, .str s => ret0 h nx (some (.int .i64 s.length))
    | false, .ns => ret0 h nx (some (.int .i64 0))
    | false, .em => ret0 h nx (some (.int .i64 0))
    | false, .ne => ret0 h nx (some (.int .i64 0))
    | false, .ro n _ => ret0 h nx (some (.int .i64 n))
    | false, .sl _ _ _ n _ => ret0 h nx (some (.int .i64 n))
    | _, _ => none
  | .mm mx x y => match ev x, ev y with
    | .int k a, .int k' b => if k = k' then ret0 h nx (some (.int k (if mx then max a b else min a b))) else none
    | _, _ => none
  | .ext x i => match ev x with
    | .tup vs => ret0 h nx vs[i]?
    | _ => none
  | .fld x off sz => match ev x with
    | .agg cs => match sz with
      | none => ret0 h nx cs[off]?
      | some n => if off + n ≤ cs.length then ret0 h nx (some (.agg ((cs.drop off).take n))) else none
    | _ => none
  | .idx x i => match ev x, ev i with
    | .str s, .int _ i => if 0 ≤ i then ret0 h nx (s[i.toNat]?.map fun b => .int .u8 b.toNat) else none
    | _, _ => none
  | .faddr x off => match ev x with
    | .rp cs o => ret0 h nx (some (.rp cs (o + off)))
    | .pt id ver o => ret0 h nx (some (.pt id ver (o + off)))
    | _ => none
  | .iaddr x i esz => match ev x, ev i with
    | .ro n cs, .int _ i => if 0 ≤ i ∧ i < n ∧ i.toNat * esz < cs.length then ret0 h nx (some (.rp cs (i.toNat * esz))) else none
    | .sl id ver off n _, .int _ i => if 0 ≤ i ∧ i < n then (match h id with
      | some b => if b.ver = ver then some ⟨.pt id ver (off + i.toNat * esz), h, nx, some [id], some []⟩ else none
      | none => none) else none
    | _, _ => none
  | .ld x sz => match view h (ev x) with
    | some (cs, off) => match sz with
      | none => cs[off]?.map fun v => ⟨v, h, nx, some (idOf (ev x)), some []⟩
      | some n => if off + n ≤ cs.length then some ⟨.agg ((cs.drop off).take n), h, nx, some (idOf (ev x)), some []⟩ else none
    | none => none
  | .st x v n => match ev x with
    | .pt id ver off => match h id with
      | some b => if b.ver = ver ∧ b.mp = none ∧ (ev v).cells.length = n ∧ off + n ≤ b.cells.length ∧ (ev v).storable = true then
          some ⟨.tup [], upd h id (some ⟨ver, b.esz, putL b.cells off (ev v).cells, none⟩), nx, some [id], some [id]⟩ else none
      | none => none
    | _ => none
  | .box x => if (ev x).storable = true then some ⟨.pt nx 0 0, upd h nx (some ⟨0, 0, (ev x).cells, none⟩), nx + 1, some [nx], some [nx]⟩ else none
  | .alloc cs => some ⟨.pt nx 0 0, upd h nx (some ⟨0, 0, cs, none⟩), nx + 1, some [nx], some [nx]⟩
  | .bs len esz zero parts => (fillA esz ev (zeros zero len) parts).map fun cs =>
      ⟨.sl nx 0 0 len (some len), upd h nx (some ⟨0, esz, cs, none⟩), nx + 1, some [nx], some [nx]⟩
  | .bld zero parts => ret0 h nx ((fillS ev zero parts).map .agg)
  | .mk esz bytes zero l c => match ev l, ev c with
    | .int .i64 l, .int .i64 c => if 0 ≤ l ∧ l ≤ c ∧ c * bytes ≤ 2 ^ 48 ∧ c < 2 ^ 62 then
        some ⟨.sl nx 0 0 l.toNat (some c.toNat), upd h nx (some ⟨0, esz, zeros zero c.toNat, none⟩), nx + 1, some [nx], some [nx]⟩ else none
    | _, _ => none
  | .slc str x lo hi esz => match str, ev x with
    | true, .str s => match loHi s.length (lo.map ev) (hi.map ev) with
      | some (l, m) => ret0 h nx (some (.str ((s.drop l).take (m - l))))
      | none => none
    | false, .ns => match loHi 0 (lo.map ev) (hi.map ev) with
      | some _ => ret0 h nx (some .ns)
      | none => none
    | false, .em => match loHi 0 (lo.map ev) (hi.map ev) with
      | some _ => ret0 h nx (some .em)
      | none => none
    | false, .ro n cs => match loHi n (lo.map ev) (hi.map ev) with
      | some (l, m) => if cs.length = n * esz then ret0 h nx (some (.ro (m - l) ((cs.drop (l * esz)).take ((m - l) * esz)))) else none
      | none => none
    | false, .sl id ver off n cap => match loHi n (lo.map ev) (hi.map ev) with
      | some (l, m) => match h id with
        | some b => if b.ver = ver ∧ b.esz = esz then some ⟨.sl id ver (off + l * esz) (m - l) (cap.map (· - l)), h, nx, some [id], some []⟩ else none
        | none => none
      | none => none
    | _, _ => none
  | .app esz bytes x y =>
    match (match ev y with | .str s => if esz = 1 then some (s.length, bytesV s) else none | v => elems h esz v) with
    | none => none
    | some (n, new) => match ev x with
      | .ns => if n * bytes ≤ 2 ^ 47 ∧ n < 2 ^ 62 then (if n = 0 then some ⟨.ns, h, nx, some (idOf (ev y)), some []⟩
          else some ⟨.sl nx 0 0 n none, upd h nx (some ⟨0, esz, new, none⟩), nx + 1, some (nx :: idOf (ev y)), some [nx]⟩) else none
      | .em => if n * bytes ≤ 2 ^ 47 ∧ n < 2 ^ 62 then (if n = 0 then some ⟨.em, h, nx, some (idOf (ev y)), some []⟩
          else some ⟨.sl nx 0 0 n none, upd h nx (some ⟨0, esz, new, none⟩), nx + 1, some (nx :: idOf (ev y)), some [nx]⟩) else none
      | .sl id ver off len cap => match h id with
        | some b => if b.ver = ver ∧ b.mp = none ∧ b.esz = esz ∧ off + len * esz ≤ b.cells.length ∧ (len + n) * bytes ≤ 2 ^ 47 ∧ len + n < 2 ^ 62 then
            some ⟨.sl id (ver + 1) 0 (len + n) (if n = 0 then cap else none), upd h id (some ⟨ver + 1, esz, (b.cells.drop off).take (len * esz) ++ new, none⟩), nx, some (id :: idOf (ev y)), some [id]⟩ else none
        | none => none
      | _ => none
  | .fnc f caps => ret0 h nx (some (.fn f (caps.map ev)))
  | .nilc x => match ev x with
    | .pt .. | .rp .. | .fn .. => ret0 h nx (some (ev x))
    | _ => none
  | .mlen x => match ev x with
    | .mp id ver => match h id with
      | some b => match b.mp with
        | some l => if b.ver = ver then some ⟨.int .i64 l.length, h, nx, some [id], some []⟩ else none
        | none => none
      | none => none
    | _ => none
  | .mnew => some ⟨.mp nx 0, upd h nx (some ⟨0, 0, [], some []⟩), nx + 1, some [nx], some [nx]⟩
  | .mget ok kt zero x k => match ev x with
    | .mp id ver => match h id with
      | some b => match b.mp with
        | some l => if b.ver = ver ∧ keyIs kt (ev k) = true then (match kvFind (ev k) l 0 with
          | some (some (_, v)) => some ⟨if ok then .tup [v, .bool true] else v, h, nx, some [id], some []⟩
          | some none => some ⟨if ok then .tup [zero, .bool false] else zero, h, nx, some [id], some []⟩
          | none => none) else none
        | none => none
      | none => none
    | _ => none
  | .mset kt x k v => match ev x with
    | .mp id ver => match h id with
      | some b => match b.mp with
        | some l => if b.ver = ver ∧ keyIs kt (ev k) = true then (match kvFind (ev k) l 0 with
          | some f => some ⟨.tup [], upd h id (some ⟨ver, b.esz, [], some (kvPut l (ev k) (ev v) f)⟩), nx, some [id], some [id]⟩
          | none => none) else none
        | none => none
      | none => none
    | _ => none
  | .cpy x y => none
  | .clr x esz zero => match ev x with
    | .sl id ver off len _ => match h id with
      | some b => if b.ver = ver ∧ b.mp = none ∧ b.esz = esz ∧ off + len * esz ≤ b.cells.length then
          some ⟨.tup [], upd h id (some ⟨ver, b.esz, putL b.cells off (zeros zero len), none⟩), nx, some [id], some [id]⟩ else none
      | none => none
    | _ => none
  | .mrk x => match ev x with
    | .sl id ver off len cap => match h id with
      | some b => if b.ver = ver ∧ b.mp = none ∧ b.esz = 1 then some ⟨.sl id ver off len cap, upd h id (some b), nx, some [id], some [id]⟩ else none
      | none => none
    | _ => none
  | .sla x lo hi n esz => match ev x with
    | .pt id ver off => match loHi n (lo.map ev) (hi.map ev) with
      | some (l, m) => match h id with
        | some b => if b.ver = ver ∧ b.mp = none ∧ b.esz = esz ∧ off + n * esz ≤ b.cells.length then some ⟨.sl id ver (off + l * esz) (m - l) (some (n - l)), h, nx, some [id], some []⟩ else none
        | none => none
      | none => none
    | _ => none
  | .bro len esz zero parts => ret0 h nx ((fillA esz ev (zeros zero len) parts).bind fun cs => if V.pureL cs = true then some (.ro len cs) else none)
  | .ala esz cs => some ⟨.pt nx 0 0, upd h nx (some ⟨0, esz, cs, none⟩), nx + 1, some [nx], some [nx]⟩
  | .call .. | .shr .. | .shq .. | .calv .. => none
end Go.Ex
