/- Operations of the model, turned into small ones (by reckoning over the program's types). -/
import Derived.Test.YtaegjihmpgdfcaaExB
import Derived.Laws.Entries
import Derived.Laws.Cells
import Derived.Laws.IdiomCopy
import Derived.ArgAppend
import Derived.Lib.ConvBytes
import Derived.Lib.AppendStr
import Derived.WideLaws
set_option linter.unusedVariables false
namespace Go.Ex
open Go.RowKit
def ofVal1 : Value → Option V
  | .bool b => some (.bool b)
  | .int k n => some (.int k n)
  | .string s => some (.str s.data.toList)
  | .pointer none => some .np
  | .slice none 0 0 => some .ns
  | .nilFunc => some .junk
  | .map none => some .junk
  | _ => none
def ofVal : Value → Option V
  | .agg cs => (cs.toList.mapM ofVal1).map .agg
  | v => ofVal1 v
def compX : Operand → Option X
  | .tmp n => some (.t n)
  | .const v => (ofVal v).map .c
  | .func f => some (.c (.fn f []))
  | .global _ => none
def compXs (l : List Operand) : Option (List X) := l.mapM compX
def compO : Option Operand → Option (Option X)
  | none => some none
  | some x => (compX x).map some
/-- How many cells, and whether it is a struct or an array. -/
def szT (P : Program) (t : TypeId) : Option Nat := (P.info? t).map (·.size)
def aggT (P : Program) (t : TypeId) : Option Bool := (P.underlying t).map fun d => match d with | .struct _ => true | .array _ _ => true | _ => false
def ldT (P : Program) (t : TypeId) : Option (Option Nat) :=
  match aggT P t, szT P t with
  | some true, some n => some (some n)
  | some false, some 1 => some none
  | _, _ => none
def zeroT (P : Program) (t : TypeId) : Option (List V) :=
  match (P.info? t).bind (·.zero) with
  | some z => z.cells.toList.mapM ofVal1
  | none => none
def zero1 (P : Program) (t : TypeId) : Option V := ((P.info? t).bind (·.zero)).bind ofVal1
def isU8 (P : Program) (e : TypeId) : Bool := match P.underlying e with
  | some (.int .u8) => true
  | _ => false
def isNilP : Operand → Bool
  | .const (.pointer none) => true
  | _ => false
def isNilS : Operand → Bool
  | .const (.slice none 0 0) => true
  | _ => false
def eqFs (P : Program) (lay : TypeId → Option (List Nat)) : Nat → List Field → Option (List Nat)
  | _, [] => some []
  | off, f :: fs => if f.name ≠ "_" ∧ f.offset = off then (match lay f.type with
      | some l => if szT P f.type = some l.length then (eqFs P lay (off + l.length) fs).map (l ++ ·) else none
      | none => none) else none
/-- A type whose '==' compares its cells, one by one: of which kinds they are. -/
def eqLay (P : Program) : Nat → TypeId → Option (List Nat)
  | 0, _ => none
  | d + 1, t => match P.underlying t with
    | some (.int _) => some [0]
    | some .bool => some [1]
    | some .string => some [2]
    | some (.struct fs) => if P.stoodInHeld t = false then eqFs P (eqLay P d) 0 fs.toList else none
    | _ => none
def eqT (P : Program) (t : TypeId) : Option (List Nat) := if P.eqGuardType P.depth t = false then eqLay P 8 t else none
def comp1 (P : Program) (f : X → Cop) (x : Operand) : Option Cop := (compX x).map f
def comp2 (P : Program) (f : X → X → Cop) (x y : Operand) : Option Cop := match compX x, compX y with | some x, some y => some (f x y) | _, _ => none
def compBin (P : Program) (op : BinOp) (t : TypeId) (x y : Operand) : Option Cop :=
  match P.underlying t with
  | some (.int _) | some .string => comp2 P (.bin op) x y
  | some .bool => match op with
    | .eql => comp2 P (.beq false) x y
    | .neq => comp2 P (.beq true) x y
    | _ => none
  | some (.pointer _) => if isNilP y then (match op with
      | .eql => comp1 P (.isnil false false) x
      | .neq => comp1 P (.isnil false true) x
      | _ => none) else none
  | some (.slice _) => if isNilS y then (match op with
      | .eql => comp1 P (.isnil true false) x
      | .neq => comp1 P (.isnil true true) x
      | _ => none) else none
  | some (.struct _) => match eqT P t, op with
      | some tags, .eql => comp2 P (.seq false tags) x y
      | some tags, .neq => comp2 P (.seq true tags) x y
      | _, _ => none
  | _ => none
def compParts (sz : Nat → Option (Nat × Nat)) : List (Nat × Operand) → Option (List (Nat × Nat × X))
  | [] => some []
  | (i, x) :: r => match sz i, compX x, compParts sz r with
    | some (o, s), some x, some r => some ((o, s, x) :: r)
    | _, _, _ => none
def compElems : List (Nat × Operand) → Option (List (Nat × X))
  | [] => some []
  | (i, x) :: r => match compX x, compElems r with
    | some x, some r => some ((i, x) :: r)
    | _, _ => none
def fieldT (P : Program) (s : TypeId) (f : Nat) : Option Field := match P.underlying s with
  | some (.struct fs) => fs[f]?
  | _ => none
def compBuiltin (P : Program) (b : Builtin) (ts : Array TypeId) (args : List Operand) : Option Cop :=
  match b, args with
  | .len, [x] => match (ts[0]?).bind P.underlying with
    | some .string => comp1 P (.len true) x
    | some (.slice _) => comp1 P (.len false) x
    | some (.map _ _) => comp1 P .mlen x
    | _ => none
  | .clear, [x] => match (ts[0]?).bind P.underlying with
    | some (.slice e) => match P.info? e, zeroT P e with
      | some i, some z => if 0 < i.size ∧ z.length = i.size then comp1 P (.clr · i.size z) x else none
      | _, _ => none
    | _ => none
  | .max, [x, y] => comp2 P (.mm true) x y
  | .min, [x, y] => comp2 P (.mm false) x y
  | .append, [x, y] => match (ts[0]?).bind P.underlying, (ts[1]?).bind P.underlying with
    | some (.slice e), some (.slice e') => match P.info? e with
      | some i => if e = e' ∧ ts[0]? = ts[1]? ∧ 0 < i.size ∧ 0 < i.bytes ∧ i.bytes ≤ 2 ^ 20 ∧ (i.zero.map fun z => z.cells.size) = some i.size then comp2 P (.app i.size i.bytes) x y else none
      | none => none
    | some (.slice e), some .string => match P.info? e with
      | some i => if i.size = 1 ∧ i.bytes = 1 ∧ isU8 P e = true ∧ (i.zero.map fun z => z.cells.size) = some i.size then comp2 P (.app 1 1) x y else none
      | none => none
    | _, _ => none
  | _, _ => none
def compOp (P : Program) (sh : Nat → Bool) (op : Op) : Option Cop :=
  match op with
  | .move x | .assign x => comp1 P .mov x
  | .pick c a b => match compX c, compX a, compX b with
    | some c, some a, some b => some (.pick c a b)
    | _, _, _ => none
  | .binOp op t x y _ => compBin P op t x y
  | .unOp op _ x => comp1 P (.un op) x
  | .convert s d x => match P.underlying s, P.underlying d with
    | some (.int _), some (.int k) => comp1 P (.conv k) x
    | some .string, some .string => comp1 P .strc x
    | some .string, some (.slice e) => if isU8 P e = true then comp1 P .s2b x else none
    | some (.slice e), some .string => if isU8 P e = true then comp1 P .b2s x else none
    | some (.slice e), some (.slice _) => if s = d ∧ isU8 P e = true then comp1 P .mrk x else none
    | _, _ => none
  | .extract x i => comp1 P (.ext · i) x
  | .field t x f => match fieldT P t f with
    | some fd => (ldT P fd.type).bind fun sz => comp1 P (.fld · fd.offset sz) x
    | none => none
  | .index t x i => match P.underlying t with
    | some .string => comp2 P .idx x i
    | _ => none
  | .fieldAddr t x f => match fieldT P t f with
    | some fd => match szT P fd.type with
      | some n => if 0 < n then comp1 P (.faddr · fd.offset) x else none
      | none => none
    | none => none
  | .indexAddr t x i => match P.underlying t with
    | some (.slice e) => match szT P e with
      | some n => if 0 < n then comp2 P (.iaddr · · n) x i else none
      | none => none
    | _ => none
  | .load t x => (ldT P t).bind fun sz => comp1 P (.ld · sz) x
  | .store t x v => match aggT P t, szT P t with
    | some _, some n => comp2 P (.st · · n) x v
    | _, _ => none
  | .box _ x => comp1 P .box x
  | .alloc t => match P.underlying t with
    | some (.array _ e) => match szT P e with
      | some k => (zeroT P t).map (.ala k)
      | none => none
    | _ => (zeroT P t).map .alloc
  | .buildSlice t len parts => match P.underlying t with
    | some (.slice e) => match szT P e, zeroT P e, compElems parts.toList with
      | some n, some z, some ps => if len * n ≤ 2 ^ 24 ∧ 0 < n ∧ z.length = n then some (.bs len n z ps) else none
      | _, _, _ => none
    | _ => none
  | .build t parts => match P.underlying t with
    | some (.struct fs) => match zeroT P t, compParts (fun i => (fs[i]?).bind fun f => (szT P f.type).map fun s => (f.offset, s)) parts.toList with
      | some z, some ps => if fs.all (fun f => (szT P f.type).isSome) then some (.bld z ps) else none
      | _, _ => none
    | _ => none
  | .makeSlice t l c => match P.underlying t with
    | some (.slice e) => match P.info? e, zeroT P e with
      | some i, some z => if 0 < i.size ∧ z.length = i.size then comp2 P (.mk i.size i.bytes z) l c else none
      | _, _ => none
    | _ => none
  | .slice t x lo hi none => match P.underlying t, compO lo, compO hi with
    | some .string, some l, some m => comp1 P (.slc true · l m 1) x
    | some (.slice e), some l, some m => match szT P e with
      | some n => if 0 < n then comp1 P (.slc false · l m n) x else none
      | none => none
    | some (.array k e), some l, some m => match szT P e with
      | some n => if 0 < n then comp1 P (.sla · l m k n) x else none
      | none => none
    | _, _, _ => none
  | .makeFunc (.func f) first caps => if first.size = 0 then (compXs caps.toList).map (.fnc f) else none
  | .nilCheck x => comp1 P .nilc x
  | .makeMap t none => match P.underlying t with
    | some (.map _ _) => some .mnew
    | _ => none
  | .lookup t x i ok => match P.underlying t with
    | some (.map k el) => match P.underlying k, zero1 P el with
      | some (.int k), some z => comp2 P (.mget ok (some k) z) x i
      | some .string, some z => comp2 P (.mget ok none z) x i
      | _, _ => none
    | _ => none
  | .mapUpdate t m k v => match P.underlying t with
    | some (.map kt _) => match P.underlying kt, compX m, compX k, compX v with
      | some (.int kk), some m, some k, some v => some (.mset (some kk) m k v)
      | some .string, some m, some k, some v => some (.mset none m k v)
      | _, _, _, _ => none
    | _ => none
  | .call c => match c.callee, compXs c.args.toList with
    | .builtin b, _ => compBuiltin P b c.argTypes c.args.toList
    | .value (.func f), some xs => match P.funcs[f]? with
      | some fn => if fn.body.isSome ∧ fn.name ≠ "runtime.NumGoroutine" then some (if sh f then (if sh (f + 1000000) then .shq f xs else .shr f xs) else .call f xs) else none
      | none => none
    | .value (.tmp t), some xs => some (.calv (.t t) xs)
    | _, _ => none
  | _ => none
/-- A row of constants that is only read. -/
def broC (P : Program) (op : Op) : Option Cop :=
  match op with
  | .buildSlice t len parts => if parts.toList.all (fun p => match p.2 with | .const _ => true | _ => false) = true then (match P.underlying t with
    | some (.slice e) => match szT P e, zeroT P e, compElems parts.toList with
      | some n, some z, some ps => if len * n ≤ 2 ^ 24 ∧ 0 < n ∧ z.length = n ∧ 0 < len then some (.bro len n z ps) else none
      | _, _, _ => none
    | _ => none) else none
  | _ => none
def IsOp (P : Program) (sh : Nat → Bool) (op : Op) (c : Cop) : Prop := compOp P sh op = some c ∨ broC P op = some c
theorem broC_is {P : Program} {op : Op} {c : Cop} (h : broC P op = some c) : ∃ t len parts e n z ps, op = .buildSlice t len parts ∧ P.underlying t = some (.slice e) ∧ szT P e = some n ∧ zeroT P e = some z ∧ compElems parts.toList = some ps ∧ len * n ≤ 2 ^ 24 ∧ 0 < n ∧ z.length = n ∧ 0 < len ∧ c = .bro len n z ps := by
  unfold broC at h
  split at h
  · rename_i t len parts
    split at h
    · split at h
      · rename_i e he
        split at h
        · rename_i n z ps h1 h2 h3
          split at h
          · rename_i hq
            injection h with h
            exact ⟨t, len, parts, e, n, z, ps, rfl, he, h1, h2, h3, hq.1, hq.2.1, hq.2.2.1, hq.2.2.2, h.symm⟩
          · cases h
        · cases h
      · cases h
    · cases h
  · cases h
theorem IsOp.comp {P : Program} {sh : Nat → Bool} {op : Op} {c : Cop} (h : IsOp P sh op c) (hc : ∀ len n z ps, c ≠ .bro len n z ps) : compOp P sh op = some c := by
  rcases h with h | h
  · exact h
  · obtain ⟨t, len, parts, e, n, z, ps, _, _, _, _, _, _, _, _, _, rfl⟩ := broC_is h
    exact absurd rfl (hc _ _ _ _)
end Go.Ex
