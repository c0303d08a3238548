/- What a pure value stands for in a world; what a state of the abstract machine stands for; what it means that a function answers. -/
import Derived.Test.YtaegjihmpgdfcaaExA
import Derived.Laws.Sem
import Derived.Lib.LaidTab
import Derived.Lib.ItoaNum
set_option linter.unusedVariables false
namespace Go.Ex
open Go.RowKit
def szOf (w : World) (r : Nat) : Nat := match w.heap[r]? with | some (.cells arr _ _) => arr.size | _ => 0
def RefOk (h : Hp) (id ver : Nat) (p : LB → Prop) : Prop := ∃ b, h id = some b ∧ ver ≤ b.ver ∧ (b.ver = ver → p b)
def SlOk (φ : Nat → Nat × Nat) (w : World) (id off len : Nat) (cap : Option Nat) (a : Option Addr) (c : Nat) (b : LB) : Prop :=
  ∃ o, a = some ⟨(φ id).1, o, none⟩ ∧ (0 < c → o = (φ id).2 + off) ∧ (φ id).2 + off + c * b.esz ≤ szOf w (φ id).1 ∧ len ≤ c ∧ (∀ n, cap = some n → c = n)
/-- Cells of a world, from a place on, each of one cell. -/
def At (w : World) (r o n : Nat) (vs : Array Value) : Prop :=
  ∃ arr elem fz, w.heap[r]? = some (.cells arr elem fz) ∧ o + n ≤ arr.size ∧ vs = arr.extract o (o + n) ∧ ∀ i v, i < n → arr[o + i]? = some v → v.oneCell' = true
inductive Rep (φ : Nat → Nat × Nat) (h : Hp) (S : Nat → Prop) (w : World) : V → Value → Prop
  | int (k : IntKind) (n : Int) : Rep φ h S w (.int k n) (.int k n)
  | bool (b : Bool) : Rep φ h S w (.bool b) (.bool b)
  | str (s : ByteArray) : Rep φ h S w (.str s.data.toList) (.string s)
  | agg (cs : List V) (vs : Array Value) : vs.size = cs.length → (∀ (i : Nat) v, vs[i]? = some v → v.oneCell' = true) →
      (∀ (i : Nat) c v, cs[i]? = some c → vs[i]? = some v → Rep φ h S w c v) → Rep φ h S w (.agg cs) (.agg vs)
  | tup (cs : List V) (vs : Array Value) : vs.size = cs.length → (∀ (i : Nat) c v, cs[i]? = some c → vs[i]? = some v → Rep φ h S w c v) → Rep φ h S w (.tup cs) (.tuple vs)
  | roN : Rep φ h S w (.ro 0 []) (.slice none 0 0)
  | ro (n : Nat) (cs : List V) (a : Addr) (c : Nat) (vs : Array Value) : n ≤ c → V.pureL cs = true → (cs ≠ [] → a.spot = none ∧ S a.block ∧ At w a.block a.off cs.length vs) →
      (∀ (i : Nat) x v, cs[i]? = some x → vs[i]? = some v → Rep φ h S w x v) → Rep φ h S w (.ro n cs) (.slice (some a) n c)
  | rp (cs : List V) (off r o : Nat) (vs : Array Value) : V.pureL cs = true → S r → At w r o cs.length vs →
      (∀ (i : Nat) x v, cs[i]? = some x → vs[i]? = some v → Rep φ h S w x v) → Rep φ h S w (.rp cs off) (.pointer (some ⟨r, o + off, none⟩))
  | sl (id ver off len : Nat) (cap : Option Nat) (a : Option Addr) (c : Nat) : RefOk h id ver (SlOk φ w id off len cap a c) → Rep φ h S w (.sl id ver off len cap) (.slice a len c)
  | pt (id ver off : Nat) (a : Addr) : RefOk h id ver (fun _ => a = ⟨(φ id).1, (φ id).2 + off, none⟩) → Rep φ h S w (.pt id ver off) (.pointer (some a))
  | ns : Rep φ h S w .ns (.slice none 0 0)
  | em0 : Rep φ h S w .em (.slice none 0 0)
  | em (a : Addr) : Rep φ h S w .em (.slice (some a) 0 0)
  | ne (a : Addr) (c : Nat) : Rep φ h S w .ne (.slice (some a) 0 c)
  | np : Rep φ h S w .np (.pointer none)
  | fn (f : Nat) (cs : List V) (vs : Array Value) : vs.size = cs.length → (∀ (i : Nat) c v, cs[i]? = some c → vs[i]? = some v → Rep φ h S w c v) → Rep φ h S w (.fn f cs) (.func (.func f) #[] vs)
  | mp (id ver r : Nat) : RefOk h id ver (fun _ => r = (φ id).1) → Rep φ h S w (.mp id ver) (.map (some r))
  | junk (v : Value) : Rep φ h S w .junk v
/-- Values in a row. -/
def Reps (φ : Nat → Nat × Nat) (h : Hp) (S : Nat → Prop) (w : World) (cs : List V) (vs : Array Value) : Prop :=
  vs.size = cs.length ∧ ∀ (i : Nat) c v, cs[i]? = some c → vs[i]? = some v → Rep φ h S w c v
/-- What comes later. -/
structure Ext (φ : Nat → Nat × Nat) (h : Hp) (S : Nat → Prop) (w : World) (φ' : Nat → Nat × Nat) (h' : Hp) (S' : Nat → Prop) (w' : World) : Prop where
  s : ∀ r, S r → S' r
  keep : ∀ r, S r → w'.heap[r]? = w.heap[r]?
  ref : ∀ id b, h id = some b → ∃ b', h' id = some b' ∧ b.ver ≤ b'.ver ∧ (b'.ver = b.ver → b'.esz = b.esz ∧ φ' id = φ id ∧ szOf w' (φ id).1 = szOf w (φ id).1)
section
variable {φ φ' φ'' : Nat → Nat × Nat} {h h' h'' : Hp} {S S' S'' : Nat → Prop} {w w' w'' w0 : World}
theorem Ext.refl : Ext φ h S w φ h S w := ⟨fun _ x => x, fun _ _ => rfl, fun _ b hb => ⟨b, hb, Nat.le_refl _, fun _ => ⟨rfl, rfl, rfl⟩⟩⟩
theorem Ext.trans (e : Ext φ h S w φ' h' S' w') (f : Ext φ' h' S' w' φ'' h'' S'' w'') : Ext φ h S w φ'' h'' S'' w'' := by
  refine ⟨fun r x => f.s r (e.s r x), fun r x => (f.keep r (e.s r x)).trans (e.keep r x), fun id b hb => ?_⟩
  obtain ⟨b', h1, h2, h3⟩ := e.ref id b hb
  obtain ⟨b'', g1, g2, g3⟩ := f.ref id b' h1
  refine ⟨b'', g1, by omega, fun hv => ?_⟩
  have e1 : b'.ver = b.ver := by omega
  obtain ⟨x1, x2, x3⟩ := h3 e1
  obtain ⟨y1, y2, y3⟩ := g3 (by omega)
  refine ⟨y1.trans x1, y2.trans x2, ?_⟩
  rw [x2] at y3
  exact y3.trans x3
theorem RefOk.ext (e : Ext φ h S w φ' h' S' w') {id ver : Nat} {p q : LB → Prop} (r : RefOk h id ver p)
    (hpq : ∀ b b', b'.esz = b.esz → φ' id = φ id → szOf w' (φ id).1 = szOf w (φ id).1 → p b → q b') : RefOk h' id ver q := by
  obtain ⟨b, h1, h2, h3⟩ := r
  obtain ⟨b', g1, g2, g3⟩ := e.ref id b h1
  refine ⟨b', g1, by omega, fun hv => ?_⟩
  have e1 : b'.ver = b.ver := by omega
  obtain ⟨x1, x2, x3⟩ := g3 e1
  exact hpq b b' x1 x2 x3 (h3 (by omega))
theorem At.keep {r o n : Nat} {vs : Array Value} (a : At w r o n vs) (hk : w'.heap[r]? = w.heap[r]?) : At w' r o n vs := by
  obtain ⟨arr, e, fz, h1, h2⟩ := a
  exact ⟨arr, e, fz, hk.trans h1, h2⟩
theorem Rep.ext (e : Ext φ h S w φ' h' S' w') {c : V} {v : Value} (r : Rep φ h S w c v) : Rep φ' h' S' w' c v := by
  induction r with
  | int k n => exact .int k n
  | bool b => exact .bool b
  | str s => exact .str s
  | agg cs vs h1 h2 h3 ih => exact .agg cs vs h1 h2 ih
  | tup cs vs h1 h3 ih => exact .tup cs vs h1 ih
  | roN => exact .roN
  | ro n cs a c vs hn hp h1 h2 ih => exact .ro n cs a c vs hn hp (fun hc => let ⟨x, y, z⟩ := h1 hc; ⟨x, e.s _ y, z.keep (e.keep _ y)⟩) ih
  | rp cs off r o vs hp h1 h2 h3 ih => exact .rp cs off r o vs hp (e.s _ h1) (h2.keep (e.keep _ h1)) ih
  | sl id ver off len cap a c h1 =>
    refine .sl id ver off len cap a c (h1.ext e fun b b' x1 x2 x3 ⟨o, p1, p2, p3, p4⟩ => ⟨o, ?_, ?_, ?_, p4⟩)
    · rw [x2]; exact p1
    · rw [x2]; exact p2
    · rw [x1, x2, x3]; exact p3
  | pt id ver off a h1 =>
    refine .pt id ver off a (h1.ext e fun b b' x1 x2 x3 p => ?_)
    rw [x2]; exact p
  | ns => exact .ns
  | em0 => exact .em0
  | em a => exact .em a
  | ne a c => exact .ne a c
  | np => exact .np
  | fn f cs vs h1 h3 ih => exact .fn f cs vs h1 ih
  | mp id ver r h1 =>
    refine .mp id ver r (h1.ext e fun b b' x1 x2 x3 p => ?_)
    rw [x2]; exact p
  | junk v => exact .junk v
theorem Reps.ext (e : Ext φ h S w φ' h' S' w') {cs : List V} {vs : Array Value} (r : Reps φ h S w cs vs) : Reps φ' h' S' w' cs vs :=
  ⟨r.1, fun i c v a b => (r.2 i c v a b).ext e⟩
end
/-- A logical block and the real one. -/
structure Blk (φ : Nat → Nat × Nat) (h : Hp) (S : Nat → Prop) (w : World) (base id : Nat) (b : LB) : Prop where
  lo : base ≤ (φ id).1
  out : ¬ S (φ id).1
  lt : (φ id).1 < w.heap.size
  at_ : b.mp = none → ∃ arr elem fz, w.heap[(φ id).1]? = some (.cells arr elem fz) ∧ (φ id).2 + b.cells.length ≤ arr.size ∧ (fz.1 = fz.2 ∨ (arr.size ≤ fz.1 ∧ b.esz = 1)) ∧
    ∀ (i : Nat) c v, b.cells[i]? = some c → arr[(φ id).2 + i]? = some v → Rep φ h S w c v ∧ v.oneCell' = true
  map : ∀ l, b.mp = some l → ∃ es clk, w.heap[(φ id).1]? = some (.map es clk) ∧ es.size = l.length ∧
    ∀ (i : Nat) c e, l[i]? = some c → es[i]? = some e → Rep φ h S w c.1 e.key ∧ Rep φ h S w c.2 e.val
/-- Tables of the library's that lie in variables. -/
def gTabs : List (String × IntKind × List Int) := [("internal/strconv.uint64pow10", .u64, Lib.pow10Tab)]
/-- What lies in the library's variables, as far as the program has them. -/
def GOk (_ : Program) (_ : World) : Prop := True
theorem GOk.on {P : Program} {w w' : World} (_ : GOk P w) (_ : Below w.heap.size w w') : GOk P w' := trivial
/-- A state of the abstract machine's blocks stands for this world; w0: the world where the function began. -/
structure Rel (P : Program) (w0 : World) (φ : Nat → Nat × Nat) (S : Nat → Prop) (h : Hp) (w : World) : Prop where
  below : Below w0.heap.size w0 w
  gl : GOk P w0
  sin : ∀ r, S r → r < w.heap.size
  blk : ∀ id b, h id = some b → Blk φ h S w w0.heap.size id b
  inj : ∀ i j b c, h i = some b → h j = some c → (φ i).1 = (φ j).1 → i = j
def addB (h : Hp) (nx : Nat) : List LB → Hp
  | [] => h
  | b :: r => addB (upd h nx (some b)) (nx + 1) r
mutual
def shift (n : Nat) : V → V
  | .sl id ver off len cap => .sl (n + id) ver off len cap
  | .pt id ver off => .pt (n + id) ver off
  | .mp id ver => .mp (n + id) ver
  | .agg cs => .agg (shiftL n cs)
  | .tup cs => .tup (shiftL n cs)
  | .fn f cs => .fn f (shiftL n cs)
  | v => v
def shiftL (n : Nat) : List V → List V
  | [] => []
  | v :: l => shift n v :: shiftL n l
end
def none0 : Hp := fun _ => none
/-- The function answers so, whatever the world. -/
def OkF (P : Program) (f : Nat) (args : List V) (r : V × List LB) : Prop :=
  (∀ b ∈ r.2, V.pureL b.cells = true ∧ b.mp = none) ∧
  ∀ (w : World) (S : Nat → Prop) (φ0 : Nat → Nat × Nat) (vs : Array Value), GOk P w → (∀ r, S r → r < w.heap.size) → Reps φ0 none0 S w args vs →
    Calls P f vs w fun e w' => ∃ x φ S', e = .returned x ∧ Rel P w φ S' (addB none0 0 r.2) w' ∧ (∀ r, S r → S' r) ∧ (∀ r, S' r → r < w.heap.size → S r) ∧ Rep φ (addB none0 0 r.2) S' w' r.1 x
/-- The function answers so and leaves the blocks so, where it shares the caller's blocks. -/
def SOk (P : Program) (f : Nat) (args : List V) (h : Hp) (nx : Nat) (v : V) (h' : Hp) (nx' : Nat) : Prop :=
  ∀ (w0 w : World) (φ : Nat → Nat × Nat) (S : Nat → Prop) (vs : Array Value), (∀ id, nx ≤ id → h id = none) → Rel P w0 φ S h w → Reps φ h S w args vs →
    Calls P f vs w fun e w' => ∃ x φ' S', e = .returned x ∧ Rel P w0 φ' S' h' w' ∧ Ext φ h S w φ' h' S' w' ∧ (∀ r, S' r → r < w0.heap.size → S r) ∧ (∀ id, nx' ≤ id → h' id = none) ∧ Rep φ' h' S' w' v x
end Go.Ex
