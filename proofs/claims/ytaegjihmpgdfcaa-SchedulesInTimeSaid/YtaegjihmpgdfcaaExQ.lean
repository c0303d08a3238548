/- Rules for walking by hand: loops that count, and what simp is to unfold. -/
import Derived.Test.YtaegjihmpgdfcaaExP
set_option linter.unusedVariables false
set_option linter.unusedSimpArgs false
namespace Go.Ex
universe u
variable {P : Program}
theorem upd_at {α : Type} (f : Nat → α) (i : Nat) (x : α) (j : Nat) : upd f i x j = if j = i then x else f j := _root_.id rfl
/-- What simp is not to look into. -/
structure Hold {α : Sort u} (a : α) : Type where
/-- What follows a value that may be missing. -/
def optK (o : Option V) (k : V → Prop) (_ : Hold k) : Prop := match o with
  | some v => k v
  | none => False
/-- What follows if a condition holds. -/
def guardK (p : Prop) (k : Prop) (_ : Hold k) : Prop := p ∧ k
def condK (c : V) (A B : Prop) (_ : Hold A) (_ : Hold B) : Prop := match c with
  | .bool true => A
  | .bool false => B
  | _ => False
def wantK (c : V) (b : Bool) (A B : Prop) (_ : Hold A) (_ : Hold B) : Prop := match want (fun _ => c) (some (0, b)) with
  | some true => A
  | some false => B
  | none => False
def seqK (f : St → Prop) (Q : E → St → Prop) (e : E) (s : St) (_ : Hold f) (_ : Hold Q) : Prop := match e with
  | .norm => f s
  | e => Q e s
def blockK (id : Nat) (Q : E → St → Prop) (e : E) (s : St) (_ : Hold Q) : Prop := match e with
  | .exit i => if i = id then Q .norm s else Q e s
  | e => Q e s
def pickK (c a b : V) (k : V → Prop) (_ : Hold k) : Prop := match c with
  | .bool t => k (if t = true then a else b)
  | _ => False
def lenA (str : Bool) (x : V) : Option V := match str, x with
  | true, .str s => some (.int .i64 s.length)
  | false, .ns => some (.int .i64 0)
  | false, .em => some (.int .i64 0)
  | false, .ne => some (.int .i64 0)
  | false, .ro n _ => some (.int .i64 n)
  | false, .sl _ _ _ n _ => some (.int .i64 n)
  | _, _ => none
def mmA (mx : Bool) (x y : V) : Option V := match x, y with
  | .int k a, .int k' b => if k = k' then some (.int k (if mx then max a b else min a b)) else none
  | _, _ => none
def extA (x : V) (i : Nat) : Option V := match x with
  | .tup vs => vs[i]?
  | _ => none
def fldA (x : V) (off : Nat) (sz : Option Nat) : Option V := match x with
  | .agg cs => match sz with
    | none => cs[off]?
    | some n => if off + n ≤ cs.length then some (.agg ((cs.drop off).take n)) else none
  | _ => none
def idxA (x i : V) : Option V := match x, i with
  | .str s, .int _ i => if 0 ≤ i then s[i.toNat]?.map fun b => .int .u8 b.toNat else none
  | _, _ => none
def faddrA (x : V) (off : Nat) : Option V := match x with
  | .rp cs o => some (.rp cs (o + off))
  | .pt id ver o => some (.pt id ver (o + off))
  | _ => none
def seqA (neg : Bool) (tags : List Nat) (x y : V) : Option V := match x, y with
  | .agg a, .agg b => if a.map tagOf = tags then (eqCells a b).map fun e => .bool (if neg then !e else e) else none
  | _, _ => none
def beqA (neg : Bool) (x y : V) : Option V := match x, y with
  | .bool a, .bool b => some (.bool (if neg then !(a == b) else a == b))
  | _, _ => none
def convA (k : IntKind) (x : V) : Option V := match x with
  | .int _ n => some (.int k (k.wrap n))
  | _ => none
def strcA (x : V) : Option V := match x with
  | .str s => some (.str s)
  | _ => none
def nilcA (x : V) : Option V := match x with
  | .pt id ver o => some (.pt id ver o)
  | .rp cs o => some (.rp cs o)
  | .fn f cs => some (.fn f cs)
  | _ => none
def iaddrK (h : Hp) (x i : V) (esz : Nat) (k : V → List Nat → Prop) (_ : Hold k) : Prop := match x, i with
  | .ro n cs, .int _ i => guardK (0 ≤ i ∧ i < n ∧ i.toNat * esz < cs.length) (k (.rp cs (i.toNat * esz)) []) ⟨⟩
  | .sl id ver off n _, .int _ i => guardK (0 ≤ i ∧ i < n) (match h id with
      | some b => guardK (b.ver = ver) (k (.pt id ver (off + i.toNat * esz)) [id]) ⟨⟩
      | none => False) ⟨⟩
  | _, _ => False
def ldA (h : Hp) (x : V) (sz : Option Nat) : Option V := match view h x with
  | some (cs, off) => match sz with
    | none => cs[off]?
    | some n => if off + n ≤ cs.length then some (.agg ((cs.drop off).take n)) else none
  | none => none
def stK (h : Hp) (x v : V) (n : Nat) (k : Nat → Hp → Prop) (_ : Hold k) : Prop := match x with
  | .pt id ver off => match h id with
    | some b => guardK (b.ver = ver ∧ b.mp = none ∧ v.cells.length = n ∧ off + n ≤ b.cells.length ∧ v.storable = true) (k id (upd h id (some ⟨ver, b.esz, putL b.cells off v.cells, none⟩))) ⟨⟩
    | none => False
  | _ => False
def clrK (h : Hp) (x : V) (n : Nat) (z : List V) (k : Nat → Hp → Prop) (_ : Hold k) : Prop := match x with
  | .sl id ver off len _ => match h id with
    | some b => guardK (b.ver = ver ∧ b.mp = none ∧ b.esz = n ∧ off + len * n ≤ b.cells.length) (k id (upd h id (some ⟨ver, b.esz, putL b.cells off (zeros z len), none⟩))) ⟨⟩
    | none => False
  | _ => False
def mrkK (h : Hp) (x : V) (k : Nat → V → Hp → Prop) (_ : Hold k) : Prop := match x with
  | .sl id ver off len cap => match h id with
    | some b => guardK (b.ver = ver ∧ b.mp = none ∧ b.esz = 1) (k id (.sl id ver off len cap) (upd h id (some b))) ⟨⟩
    | none => False
  | _ => False
def slaK (h : Hp) (x : V) (lo hi : Option V) (n esz : Nat) (k : V → List Nat → Prop) (_ : Hold k) : Prop := match x with
  | .pt id ver off => match loHi n lo hi with
    | some (l, m) => match h id with
      | some b => guardK (b.ver = ver ∧ b.mp = none ∧ b.esz = esz ∧ off + n * esz ≤ b.cells.length) (k (.sl id ver (off + l * esz) (m - l) (some (n - l))) [id]) ⟨⟩
      | none => False
    | none => False
  | _ => False
def blkK (o : Option LB) (k : LB → Prop) (_ : Hold k) : Prop := match o with
  | some b => k b
  | none => False
/-- The result of an operation that writes. -/
def resK (o : Option R) (K : V → Hp → Nat → Option (List Nat) → Option (List Nat) → Prop) (_ : Hold K) : Prop := match o with
  | some r => K r.v r.h r.nx r.rd r.wr
  | none => False
def argsV (t : Nat → V) : List X → List V
  | [] => []
  | x :: l => X.ev t x :: argsV t l
def roArgs (h : Hp) : List V → Option (List V)
  | [] => some []
  | v :: l => match toRO h 8 v, roArgs h l with
    | some v, some l => some (v :: l)
    | _, _ => none
theorem argsV_eq (t : Nat → V) : ∀ xs : List X, xs.map (X.ev t) = argsV t xs
  | [] => rfl
  | x :: l => by rw [List.map_cons, argsV_eq t l]; rfl
theorem roArgs_eq (h : Hp) : ∀ vs : List V, vs.mapM (toRO h 8) = roArgs h vs
  | [] => rfl
  | v :: l => by
    have e := roArgs_eq h l
    rw [List.mapM_cons, e]
    simp only [roArgs]
    cases toRO h 8 v <;> cases roArgs h l <;> rfl
/-- A call's question. -/
def callK (P : Program) (f : Nat) (vs : List V) (ro : Option (List V)) (h : Hp) (nx : Nat) (K : V → Hp → Nat → Option (List Nat) → Option (List Nat) → Prop) (_ : Hold K) : Prop :=
  ∃ as r, ro = some as ∧ OkF P f as r ∧ okRes vs r = true ∧
      K (shift nx r.1) (addB h nx r.2) (nx + r.2.length) (callRd vs nx r.2.length) (callWr vs nx r.2.length)
def shrK (P : Program) (f : Nat) (vs : List V) (h : Hp) (nx : Nat) (K : V → Hp → Nat → Option (List Nat) → Option (List Nat) → Prop) (_ : Hold K) : Prop :=
  ∃ v h' nx', SOk P f vs h nx v h' nx' ∧ K v h' nx' none none
def shqK (P : Program) (f : Nat) (vs : List V) (h : Hp) (nx : Nat) (K : V → Hp → Nat → Option (List Nat) → Option (List Nat) → Prop) (_ : Hold K) : Prop :=
  ∃ v, SOk P f vs h nx v h nx ∧ K v h nx none (some [])
def W (P : Program) (C : Cmd) (Q : E → St → Prop) (s : St) (_ : Hold C) (_ : Hold Q) : Prop := wpA P C Q s
def RN (P : Program) (l : List Ins) (s : St) (K : St → Prop) (_ : Hold l) (_ : Hold K) : Prop := runN P l s K
def RL (P : Program) (l : List Ins) (s : St) (acc : List FW) (K : St → Prop) (_ : Hold l) (_ : Hold K) : Prop := runL P l s acc K
def SI (P : Program) (o : Cop) (s : St) (K : V → Hp → Nat → Option (List Nat) → Option (List Nat) → Prop) (_ : Hold o) (_ : Hold K) : Prop := stepI P o s K
def LP (P : Program) (C : Cmd) (Q : E → St → Prop) (s : St) (_ : Hold C) (_ : Hold Q) : Prop := Loops (wpA P C) Q s
theorem W_of {P : Program} {C : Cmd} {Q : E → St → Prop} {s : St} (h : W P C Q s ⟨⟩ ⟨⟩) : wpA P C Q s := h
section
variable {s s' : St} {K : V → Hp → Nat → Option (List Nat) → Option (List Nat) → Prop} {x y z : X} {k : V → Prop} {Q : E → St → Prop} {a b : Cmd} {l : List Ins} {KS : St → Prop} {cf : List Nat} {acc : List FW}
@[simp] theorem blkK_some {b : LB} {k : LB → Prop} : blkK (some b) k ⟨⟩ = k b := _root_.id rfl
@[simp] theorem optK_some (v : V) : optK (some v) k ⟨⟩ = k v := _root_.id rfl
@[simp] theorem optK_none : optK none k ⟨⟩ = False := _root_.id rfl
@[simp] theorem guardK_true {q : Prop} : guardK True q ⟨⟩ = q := by simp [guardK]
@[simp] theorem condK_bool {c : Bool} {A B : Prop} (h : c = true) : condK (.bool c) A B ⟨⟩ ⟨⟩ = A := by subst h; rfl
@[simp] theorem condK_true {A B : Prop} : condK (.bool true) A B ⟨⟩ ⟨⟩ = A := _root_.id rfl
@[simp] theorem condK_false {A B : Prop} : condK (.bool false) A B ⟨⟩ ⟨⟩ = B := _root_.id rfl
theorem condK_of {c : Bool} {A B : Prop} (h1 : c = true → A) (h2 : c = false → B) : condK (.bool c) A B ⟨⟩ ⟨⟩ := by
  cases c with
  | true => exact h1 rfl
  | false => exact h2 rfl
@[simp] theorem wantK_tt {A B : Prop} : wantK (.bool true) true A B ⟨⟩ ⟨⟩ = A := _root_.id rfl
@[simp] theorem wantK_tf {A B : Prop} : wantK (.bool true) false A B ⟨⟩ ⟨⟩ = B := _root_.id rfl
@[simp] theorem wantK_ft {A B : Prop} : wantK (.bool false) true A B ⟨⟩ ⟨⟩ = B := _root_.id rfl
@[simp] theorem wantK_ff {A B : Prop} : wantK (.bool false) false A B ⟨⟩ ⟨⟩ = A := _root_.id rfl
@[simp] theorem wantK_tup {A B : Prop} {w : Bool} {vs : List V} : wantK (.tup vs) w A B ⟨⟩ ⟨⟩ = B := _root_.id rfl
theorem wantT_of {c : Bool} {A B : Prop} (h1 : c = true → A) (h2 : c = false → B) : wantK (.bool c) true A B ⟨⟩ ⟨⟩ := by
  cases c with
  | true => exact h1 rfl
  | false => exact h2 rfl
theorem wantF_of {c : Bool} {A B : Prop} (h1 : c = false → A) (h2 : c = true → B) : wantK (.bool c) false A B ⟨⟩ ⟨⟩ := by
  cases c with
  | true => exact h2 rfl
  | false => exact h1 rfl
@[simp] theorem seqK_norm {f : St → Prop} : seqK f Q .norm s ⟨⟩ ⟨⟩ = f s := _root_.id rfl
@[simp] theorem seqK_exit {f : St → Prop} {i : Nat} : seqK f Q (.exit i) s ⟨⟩ ⟨⟩ = Q (.exit i) s := _root_.id rfl
@[simp] theorem seqK_ret {f : St → Prop} : seqK f Q .ret s ⟨⟩ ⟨⟩ = Q .ret s := _root_.id rfl
@[simp] theorem blockK_norm {id : Nat} : blockK id Q .norm s ⟨⟩ = Q .norm s := _root_.id rfl
@[simp] theorem blockK_ret {id : Nat} : blockK id Q .ret s ⟨⟩ = Q .ret s := _root_.id rfl
@[simp] theorem blockK_self {id : Nat} : blockK id Q (.exit id) s ⟨⟩ = Q .norm s := if_pos rfl
theorem blockK_exit {id i : Nat} : blockK id Q (.exit i) s ⟨⟩ = if i = id then Q .norm s else Q (.exit i) s := rfl
@[simp] theorem pickK_bool {c u v : Bool} : pickK (.bool c) (.bool u) (.bool v) k ⟨⟩ = k (.bool (if c = true then u else v)) := by cases c <;> rfl
@[simp] theorem pickK_any {c : Bool} {u v : V} : pickK (.bool c) u v k ⟨⟩ = k (if c = true then u else v) := _root_.id rfl
-- Commands.
@[simp] theorem wpA_skip : W P .skip Q s ⟨⟩ ⟨⟩ = Q .norm s := _root_.id rfl
@[simp] theorem wpA_regN : W P (.reg false l) Q s ⟨⟩ ⟨⟩ = RN P l s (Q .norm) ⟨⟩ ⟨⟩ := _root_.id rfl
@[simp] theorem wpA_regL : W P (.reg true l) Q s ⟨⟩ ⟨⟩ = RL P l s [] (Q .norm) ⟨⟩ ⟨⟩ := _root_.id rfl
@[simp] theorem wpA_seq : W P (.seq a b) Q s ⟨⟩ ⟨⟩ = W P a (fun e s => seqK (fun s => W P b Q s ⟨⟩ ⟨⟩) Q e s ⟨⟩ ⟨⟩) s ⟨⟩ ⟨⟩ := _root_.id rfl
@[simp] theorem wpA_cond : W P (.cond x a b) Q s ⟨⟩ ⟨⟩ = condK (X.ev s.t x) (W P a Q s ⟨⟩ ⟨⟩) (W P b Q s ⟨⟩ ⟨⟩) ⟨⟩ ⟨⟩ := _root_.id rfl
@[simp] theorem wpA_block {id : Nat} : W P (.block id a) Q s ⟨⟩ ⟨⟩ = W P a (fun e s => blockK id Q e s ⟨⟩) s ⟨⟩ ⟨⟩ := _root_.id rfl
@[simp] theorem wpA_loop : W P (.loop a) Q s ⟨⟩ ⟨⟩ = LP P a Q s ⟨⟩ ⟨⟩ := _root_.id rfl
@[simp] theorem wpA_exit {id : Nat} : W P (.exit id) Q s ⟨⟩ ⟨⟩ = Q (.exit id) s := _root_.id rfl
@[simp] theorem wpA_ret : W P .ret Q s ⟨⟩ ⟨⟩ = Q .ret s := _root_.id rfl
@[simp] theorem runN_nil : RN P [] s KS ⟨⟩ ⟨⟩ = KS s := _root_.id rfl
@[simp] theorem runN_do {d : Nat} {o : Cop} : RN P (⟨some d, none, o, cf⟩ :: l) s KS ⟨⟩ ⟨⟩ = SI P o s (fun v h nx _ _ => RN P l ⟨upd s.t d v, h, nx⟩ KS ⟨⟩ ⟨⟩) ⟨⟩ ⟨⟩ := _root_.id rfl
@[simp] theorem runN_do0 {o : Cop} : RN P (⟨none, none, o, cf⟩ :: l) s KS ⟨⟩ ⟨⟩ = SI P o s (fun _ h nx _ _ => RN P l ⟨s.t, h, nx⟩ KS ⟨⟩ ⟨⟩) ⟨⟩ ⟨⟩ := _root_.id rfl
@[simp] theorem runN_g {d g : Nat} {w : Bool} {o : Cop} : RN P (⟨some d, some (g, w), o, cf⟩ :: l) s KS ⟨⟩ ⟨⟩ = wantK (s.t g) w (SI P o s (fun v h nx _ _ => RN P l ⟨upd s.t d v, h, nx⟩ KS ⟨⟩ ⟨⟩) ⟨⟩ ⟨⟩) (RN P l ⟨upd s.t d (.tup []), s.h, s.nx⟩ KS ⟨⟩ ⟨⟩) ⟨⟩ ⟨⟩ := _root_.id rfl
@[simp] theorem runN_g0 {g : Nat} {w : Bool} {o : Cop} : RN P (⟨none, some (g, w), o, cf⟩ :: l) s KS ⟨⟩ ⟨⟩ = wantK (s.t g) w (SI P o s (fun _ h nx _ _ => RN P l ⟨s.t, h, nx⟩ KS ⟨⟩ ⟨⟩) ⟨⟩ ⟨⟩) (RN P l ⟨s.t, s.h, s.nx⟩ KS ⟨⟩ ⟨⟩) ⟨⟩ ⟨⟩ := _root_.id rfl
@[simp] theorem runL_nil : RL P [] s acc KS ⟨⟩ ⟨⟩ = KS s := _root_.id rfl
@[simp] theorem runL_do {d : Nat} {o : Cop} : RL P (⟨some d, none, o, cf⟩ :: l) s acc KS ⟨⟩ ⟨⟩ = SI P o s (fun v h nx rd wr => guardK (cfB cf acc rd wr = true) (RL P l ⟨upd s.t d v, h, nx⟩ (acc ++ [(rd, wr)]) KS ⟨⟩ ⟨⟩) ⟨⟩) ⟨⟩ ⟨⟩ := _root_.id rfl
@[simp] theorem runL_do0 {o : Cop} : RL P (⟨none, none, o, cf⟩ :: l) s acc KS ⟨⟩ ⟨⟩ = SI P o s (fun _ h nx rd wr => guardK (cfB cf acc rd wr = true) (RL P l ⟨s.t, h, nx⟩ (acc ++ [(rd, wr)]) KS ⟨⟩ ⟨⟩) ⟨⟩) ⟨⟩ ⟨⟩ := _root_.id rfl
@[simp] theorem runL_g {d g : Nat} {w : Bool} {o : Cop} : RL P (⟨some d, some (g, w), o, cf⟩ :: l) s acc KS ⟨⟩ ⟨⟩ = wantK (s.t g) w (SI P o s (fun v h nx rd wr => guardK (cfB cf acc rd wr = true) (RL P l ⟨upd s.t d v, h, nx⟩ (acc ++ [(rd, wr)]) KS ⟨⟩ ⟨⟩) ⟨⟩) ⟨⟩ ⟨⟩) (RL P l ⟨upd s.t d (.tup []), s.h, s.nx⟩ (acc ++ [(some [], some [])]) KS ⟨⟩ ⟨⟩) ⟨⟩ ⟨⟩ := _root_.id rfl
@[simp] theorem runL_g0 {g : Nat} {w : Bool} {o : Cop} : RL P (⟨none, some (g, w), o, cf⟩ :: l) s acc KS ⟨⟩ ⟨⟩ = wantK (s.t g) w (SI P o s (fun _ h nx rd wr => guardK (cfB cf acc rd wr = true) (RL P l ⟨s.t, h, nx⟩ (acc ++ [(rd, wr)]) KS ⟨⟩ ⟨⟩) ⟨⟩) ⟨⟩ ⟨⟩) (RL P l ⟨s.t, s.h, s.nx⟩ (acc ++ [(some [], some [])]) KS ⟨⟩ ⟨⟩) ⟨⟩ ⟨⟩ := _root_.id rfl
@[simp] theorem cfB_nil {rd wr : Option (List Nat)} : cfB [] acc rd wr = true := _root_.id rfl
@[simp] theorem cfB_cons {i : Nat} {rd wr : Option (List Nat)} : cfB (i :: cf) acc rd wr = ((match acc[i]? with
    | some (r, w) => disj w rd && disj r wr
    | none => false) && cfB cf acc rd wr) := rfl
@[simp] theorem disj_nil {q : Option (List Nat)} : disj (some []) q = true := by cases q <;> rfl
@[simp] theorem disj_nil' {q : Option (List Nat)} : disj q (some []) = true := by
  cases q with
  | none => rfl
  | some l => cases l <;> rfl
@[simp] theorem ev_t {t : Nat → V} {n : Nat} : X.ev t (.t n) = t n := _root_.id rfl
@[simp] theorem ev_c {t : Nat → V} {v : V} : X.ev t (.c v) = v := _root_.id rfl
-- Operations.
theorem via {o : Cop} {q : Option V} (e : opA o (X.ev s.t) s.h s.nx = ret0 s.h s.nx q) (hs : SI P o s K ⟨⟩ ⟨⟩ = resK (opA o (X.ev s.t) s.h s.nx) K ⟨⟩) : SI P o s K ⟨⟩ ⟨⟩ = optK q (fun v => K v s.h s.nx (some []) (some [])) ⟨⟩ := by
  rw [hs, e]; cases q <;> rfl
@[simp] theorem step_mov : SI P (.mov x) s K ⟨⟩ ⟨⟩ = K (X.ev s.t x) s.h s.nx (some []) (some []) := _root_.id rfl
@[simp] theorem step_pick : SI P (.pick x y z) s K ⟨⟩ ⟨⟩ = pickK (X.ev s.t x) (X.ev s.t y) (X.ev s.t z) (fun v => K v s.h s.nx (some []) (some [])) ⟨⟩ := by
  simp only [SI, stepI, opA]
  cases X.ev s.t x <;> rfl
@[simp] theorem step_bin {op : BinOp} : SI P (.bin op x y) s K ⟨⟩ ⟨⟩ = optK (binA op (X.ev s.t x) (X.ev s.t y)) (fun v => K v s.h s.nx (some []) (some [])) ⟨⟩ := via rfl rfl
@[simp] theorem step_beq {neg : Bool} : SI P (.beq neg x y) s K ⟨⟩ ⟨⟩ = optK (beqA neg (X.ev s.t x) (X.ev s.t y)) (fun v => K v s.h s.nx (some []) (some [])) ⟨⟩ := by
  refine via ?_ rfl
  simp only [opA]
  cases X.ev s.t x <;> cases X.ev s.t y <;> rfl
@[simp] theorem step_seq {neg : Bool} {tags : List Nat} : SI P (.seq neg tags x y) s K ⟨⟩ ⟨⟩ = optK (seqA neg tags (X.ev s.t x) (X.ev s.t y)) (fun v => K v s.h s.nx (some []) (some [])) ⟨⟩ := by
  refine via ?_ rfl
  simp only [opA]
  cases X.ev s.t x <;> cases X.ev s.t y <;> first | rfl | skip
  simp only [seqA]
  split <;> rfl
@[simp] theorem step_un {op : UnOp} : SI P (.un op x) s K ⟨⟩ ⟨⟩ = optK (unA op (X.ev s.t x)) (fun v => K v s.h s.nx (some []) (some [])) ⟨⟩ := via rfl rfl
@[simp] theorem step_conv {i : IntKind} : SI P (.conv i x) s K ⟨⟩ ⟨⟩ = optK (convA i (X.ev s.t x)) (fun v => K v s.h s.nx (some []) (some [])) ⟨⟩ := by
  refine via ?_ rfl
  simp only [opA]
  cases X.ev s.t x <;> rfl
@[simp] theorem step_strc : SI P (.strc x) s K ⟨⟩ ⟨⟩ = optK (strcA (X.ev s.t x)) (fun v => K v s.h s.nx (some []) (some [])) ⟨⟩ := by
  refine via ?_ rfl
  simp only [opA]
  cases X.ev s.t x <;> rfl
@[simp] theorem step_len {str : Bool} : SI P (.len str x) s K ⟨⟩ ⟨⟩ = optK (lenA str (X.ev s.t x)) (fun v => K v s.h s.nx (some []) (some [])) ⟨⟩ := by
  refine via ?_ rfl
  simp only [opA]
  cases str <;> cases X.ev s.t x <;> rfl
@[simp] theorem step_mm {mx : Bool} : SI P (.mm mx x y) s K ⟨⟩ ⟨⟩ = optK (mmA mx (X.ev s.t x) (X.ev s.t y)) (fun v => K v s.h s.nx (some []) (some [])) ⟨⟩ := by
  refine via ?_ rfl
  simp only [opA]
  cases X.ev s.t x <;> cases X.ev s.t y <;> first | rfl | skip
  simp only [mmA]
  split <;> rfl
@[simp] theorem step_ext {i : Nat} : SI P (.ext x i) s K ⟨⟩ ⟨⟩ = optK (extA (X.ev s.t x) i) (fun v => K v s.h s.nx (some []) (some [])) ⟨⟩ := by
  refine via ?_ rfl
  simp only [opA]
  cases X.ev s.t x <;> rfl
@[simp] theorem step_fld {i : Nat} {sz : Option Nat} : SI P (.fld x i sz) s K ⟨⟩ ⟨⟩ = optK (fldA (X.ev s.t x) i sz) (fun v => K v s.h s.nx (some []) (some [])) ⟨⟩ := by
  refine via ?_ rfl
  simp only [opA]
  cases X.ev s.t x <;> first | rfl | skip
  cases sz with
  | none => rfl
  | some n => simp only [fldA]; split <;> rfl
@[simp] theorem step_idx : SI P (.idx x y) s K ⟨⟩ ⟨⟩ = optK (idxA (X.ev s.t x) (X.ev s.t y)) (fun v => K v s.h s.nx (some []) (some [])) ⟨⟩ := by
  refine via ?_ rfl
  simp only [opA]
  cases X.ev s.t x <;> cases X.ev s.t y <;> first | rfl | skip
  simp only [idxA]
  split <;> rfl
@[simp] theorem step_faddr {i : Nat} : SI P (.faddr x i) s K ⟨⟩ ⟨⟩ = optK (faddrA (X.ev s.t x) i) (fun v => K v s.h s.nx (some []) (some [])) ⟨⟩ := by
  refine via ?_ rfl
  simp only [opA]
  cases X.ev s.t x <;> rfl
@[simp] theorem step_nilc : SI P (.nilc x) s K ⟨⟩ ⟨⟩ = optK (nilcA (X.ev s.t x)) (fun v => K v s.h s.nx (some []) (some [])) ⟨⟩ := by
  refine via ?_ rfl
  simp only [opA]
  cases hx : X.ev s.t x <;> rfl
@[simp] theorem step_iaddr {n : Nat} : SI P (.iaddr x y n) s K ⟨⟩ ⟨⟩ = iaddrK s.h (X.ev s.t x) (X.ev s.t y) n (fun v rd => K v s.h s.nx (some rd) (some [])) ⟨⟩ := by
  simp only [SI, stepI, opA]
  cases X.ev s.t x <;> cases X.ev s.t y <;> first | rfl | skip
  · simp only [iaddrK, guardK]
    split
    · rename_i q; split at q <;> first | (cases q; done) | skip
      rename_i q'
      injection q with q; subst q
      simp [q']
    · rename_i q; split at q <;> first | (cases q; done) | skip
      rename_i q'
      simp [q']
  · rename_i id ver off n cap i' i
    simp only [iaddrK, guardK]
    by_cases h1 : 0 ≤ i ∧ i < n
    · rw [if_pos h1]
      cases s.h id with
      | none => simp
      | some b =>
        simp only
        by_cases h2 : b.ver = ver
        · rw [if_pos h2]; simp [h1, h2]
        · rw [if_neg h2]; simp [h2]
    · rw [if_neg h1]; simp [h1]
@[simp] theorem step_ld {sz : Option Nat} : SI P (.ld x sz) s K ⟨⟩ ⟨⟩ = optK (ldA s.h (X.ev s.t x) sz) (fun v => K v s.h s.nx (some (idOf (X.ev s.t x))) (some [])) ⟨⟩ := by
  simp only [SI, stepI, opA, ldA]
  cases view s.h (X.ev s.t x) with
  | none => rfl
  | some p =>
    obtain ⟨cs, off⟩ := p
    cases sz with
    | none => simp only; cases cs[off]? <;> rfl
    | some n =>
      simp only
      by_cases q : off + n ≤ cs.length
      · rw [if_pos q, if_pos q]; rfl
      · rw [if_neg q, if_neg q]; rfl
@[simp] theorem step_st {n : Nat} : SI P (.st x y n) s K ⟨⟩ ⟨⟩ = stK s.h (X.ev s.t x) (X.ev s.t y) n (fun id h => K (.tup []) h s.nx (some [id]) (some [id])) ⟨⟩ := by
  simp only [SI, stepI, opA]
  cases X.ev s.t x <;> first | rfl | skip
  rename_i id ver off
  simp only [stK]
  cases s.h id with
  | none => rfl
  | some b =>
    simp only [guardK]
    by_cases q : b.ver = ver ∧ b.mp = none ∧ (X.ev s.t y).cells.length = n ∧ off + n ≤ b.cells.length ∧ (X.ev s.t y).storable = true
    · rw [if_pos q]; simp [q]
    · rw [if_neg q]; simp only [q, false_and]
@[simp] theorem step_mrk : SI P (.mrk x) s K ⟨⟩ ⟨⟩ = mrkK s.h (X.ev s.t x) (fun id v h => K v h s.nx (some [id]) (some [id])) ⟨⟩ := by
  simp only [SI, stepI, opA]
  cases X.ev s.t x <;> first | rfl | skip
  rename_i id ver off len cap
  simp only [mrkK]
  cases s.h id with
  | none => rfl
  | some b =>
    simp only [guardK]
    by_cases q : b.ver = ver ∧ b.mp = none ∧ b.esz = 1
    · rw [if_pos q]; simp [q]
    · rw [if_neg q]; simp only [q, false_and]
@[simp] theorem step_clr {n : Nat} {z : List V} : SI P (.clr x n z) s K ⟨⟩ ⟨⟩ = clrK s.h (X.ev s.t x) n z (fun id h => K (.tup []) h s.nx (some [id]) (some [id])) ⟨⟩ := by
  simp only [SI, stepI, opA]
  cases X.ev s.t x <;> first | rfl | skip
  rename_i id ver off len cap
  simp only [clrK]
  cases s.h id with
  | none => rfl
  | some b =>
    simp only [guardK]
    by_cases q : b.ver = ver ∧ b.mp = none ∧ b.esz = n ∧ off + len * n ≤ b.cells.length
    · rw [if_pos q]; simp [q]
    · rw [if_neg q]; simp only [q, false_and]
@[simp] theorem step_sla {lo hi : Option X} {n esz : Nat} : SI P (.sla x lo hi n esz) s K ⟨⟩ ⟨⟩ = slaK s.h (X.ev s.t x) (lo.map (X.ev s.t)) (hi.map (X.ev s.t)) n esz (fun v rd => K v s.h s.nx (some rd) (some [])) ⟨⟩ := by
  simp only [SI, stepI, opA]
  cases X.ev s.t x <;> first | rfl | skip
  rename_i id ver off
  simp only [slaK]
  cases loHi n (lo.map (X.ev s.t)) (hi.map (X.ev s.t)) with
  | none => rfl
  | some lm =>
    obtain ⟨l, m⟩ := lm
    simp only
    cases s.h id with
    | none => rfl
    | some b =>
      simp only [guardK]
      by_cases q : b.ver = ver ∧ b.mp = none ∧ b.esz = esz ∧ off + n * esz ≤ b.cells.length
      · rw [if_pos q]; simp [q]
      · rw [if_neg q]; simp only [q, false_and]
@[simp] theorem step_bro {len esz : Nat} {z : List V} {ps : List (Nat × X)} : SI P (.bro len esz z ps) s K ⟨⟩ ⟨⟩ = optK ((fillA esz (X.ev s.t) (zeros z len) ps).bind fun cs => if V.pureL cs = true then some (.ro len cs) else none) (fun v => K v s.h s.nx (some []) (some [])) ⟨⟩ := by
  refine via ?_ rfl
  simp only [opA]
@[simp] theorem step_ala {esz : Nat} {cs : List V} : SI P (.ala esz cs) s K ⟨⟩ ⟨⟩ = K (.pt s.nx 0 0) (upd s.h s.nx (some ⟨0, esz, cs, none⟩)) (s.nx + 1) (some [s.nx]) (some [s.nx]) := _root_.id rfl
@[simp] theorem step_alloc {cs : List V} : SI P (.alloc cs) s K ⟨⟩ ⟨⟩ = K (.pt s.nx 0 0) (upd s.h s.nx (some ⟨0, 0, cs, none⟩)) (s.nx + 1) (some [s.nx]) (some [s.nx]) := _root_.id rfl
@[simp] theorem step_box : SI P (.box x) s K ⟨⟩ ⟨⟩ = guardK ((X.ev s.t x).storable = true) (K (.pt s.nx 0 0) (upd s.h s.nx (some ⟨0, 0, (X.ev s.t x).cells, none⟩)) (s.nx + 1) (some [s.nx]) (some [s.nx])) ⟨⟩ := by
  simp only [SI, stepI, opA, guardK]
  by_cases q : (X.ev s.t x).storable = true
  · rw [if_pos q]; simp [q]
  · rw [if_neg q]; simp only [q, false_and, Bool.false_eq_true]
@[simp] theorem step_fnc {f : Nat} {xs : List X} : SI P (.fnc f xs) s K ⟨⟩ ⟨⟩ = K (.fn f (argsV s.t xs)) s.h s.nx (some []) (some []) := by
  rw [← argsV_eq]; rfl
theorem step_any (o : Cop) (ho : (match o with | .call .. | .shr .. | .shq .. | .calv .. => false | _ => true) = true) : SI P o s K ⟨⟩ ⟨⟩ = resK (opA o (X.ev s.t) s.h s.nx) K ⟨⟩ := by
  cases o <;> first | rfl | (cases ho; done)
@[simp] theorem step_bld {zero : List V} {parts : List (Nat × Nat × X)} : SI P (.bld zero parts) s K ⟨⟩ ⟨⟩ = optK ((fillS (X.ev s.t) zero parts).map .agg) (fun v => K v s.h s.nx (some []) (some [])) ⟨⟩ := via rfl rfl
@[simp] theorem step_call {f : Nat} {xs : List X} : SI P (.call f xs) s K ⟨⟩ ⟨⟩ = callK P f (argsV s.t xs) (roArgs s.h (argsV s.t xs)) s.h s.nx K ⟨⟩ := by
  simp only [callK]
  rw [← roArgs_eq, ← argsV_eq]; rfl
@[simp] theorem step_shr {f : Nat} {xs : List X} : SI P (.shr f xs) s K ⟨⟩ ⟨⟩ = shrK P f (argsV s.t xs) s.h s.nx K ⟨⟩ := by
  rw [← argsV_eq]; rfl
@[simp] theorem step_shq {f : Nat} {xs : List X} : SI P (.shq f xs) s K ⟨⟩ ⟨⟩ = shqK P f (argsV s.t xs) s.h s.nx K ⟨⟩ := by
  rw [← argsV_eq]; rfl
end
-- Values.
attribute [simp] argsV roArgs upd_at
@[simp] theorem i_add {k : IntKind} {a b : Int} : binA .add (.int k a) (.int k b) = some (.int k (k.wrap (a + b))) := by simp [binA, intA]
@[simp] theorem i_sub {k : IntKind} {a b : Int} : binA .sub (.int k a) (.int k b) = some (.int k (k.wrap (a - b))) := by simp [binA, intA]
@[simp] theorem i_mul {k : IntKind} {a b : Int} : binA .mul (.int k a) (.int k b) = some (.int k (k.wrap (a * b))) := by simp [binA, intA]
@[simp] theorem i_quo {k : IntKind} {a b : Int} : binA .quo (.int k a) (.int k b) = if b = 0 then none else some (.int k (k.wrap (a.tdiv b))) := by simp [binA, intA]
@[simp] theorem i_rem {k : IntKind} {a b : Int} : binA .rem (.int k a) (.int k b) = if b = 0 then none else some (.int k (a.tmod b)) := by simp [binA, intA]
@[simp] theorem i_and {k : IntKind} {a b : Int} : binA .and (.int k a) (.int k b) = some (.int k (k.wrap (BitVec.ofInt k.bits a &&& BitVec.ofInt k.bits b).toNat)) := by simp [binA, intA]
@[simp] theorem i_or {k : IntKind} {a b : Int} : binA .or (.int k a) (.int k b) = some (.int k (k.wrap (BitVec.ofInt k.bits a ||| BitVec.ofInt k.bits b).toNat)) := by simp [binA, intA]
@[simp] theorem i_xor {k : IntKind} {a b : Int} : binA .xor (.int k a) (.int k b) = some (.int k (k.wrap (BitVec.ofInt k.bits a ^^^ BitVec.ofInt k.bits b).toNat)) := by simp [binA, intA]
@[simp] theorem i_andNot {k : IntKind} {a b : Int} : binA .andNot (.int k a) (.int k b) = some (.int k (k.wrap (BitVec.ofInt k.bits a &&& ~~~BitVec.ofInt k.bits b).toNat)) := by simp [binA, intA]
@[simp] theorem i_shl {k k' : IntKind} {a b : Int} : binA .shl (.int k a) (.int k' b) = if b < 0 then none else some (.int k (k.wrap (a * 2 ^ (min b.toNat k.bits)))) := by simp [binA]
@[simp] theorem i_shr {k k' : IntKind} {a b : Int} : binA .shr (.int k a) (.int k' b) = if b < 0 then none else some (.int k (a.fdiv (2 ^ (min b.toNat k.bits)))) := by simp [binA]
@[simp] theorem i_eql {k : IntKind} {a b : Int} : binA .eql (.int k a) (.int k b) = some (.bool (decide (a = b))) := by simp [binA, intA]; rfl
@[simp] theorem i_neq {k : IntKind} {a b : Int} : binA .neq (.int k a) (.int k b) = some (.bool (!decide (a = b))) := by simp [binA, intA]; rfl
@[simp] theorem i_lss {k : IntKind} {a b : Int} : binA .lss (.int k a) (.int k b) = some (.bool (decide (a < b))) := by simp [binA, intA]
@[simp] theorem i_leq {k : IntKind} {a b : Int} : binA .leq (.int k a) (.int k b) = some (.bool (decide (a ≤ b))) := by simp [binA, intA]
@[simp] theorem i_gtr {k : IntKind} {a b : Int} : binA .gtr (.int k a) (.int k b) = some (.bool (decide (b < a))) := by simp [binA, intA]
@[simp] theorem i_geq {k : IntKind} {a b : Int} : binA .geq (.int k a) (.int k b) = some (.bool (decide (b ≤ a))) := by simp [binA, intA]
@[simp] theorem s_bin' {op : BinOp} {a b : List UInt8} : binA op (.str a) (.str b) = strA op a b := _root_.id rfl
@[simp] theorem len_str {s : List UInt8} : lenA true (.str s) = some (.int .i64 s.length) := _root_.id rfl
@[simp] theorem len_ns : lenA false .ns = some (.int .i64 0) := _root_.id rfl
@[simp] theorem len_em : lenA false .em = some (.int .i64 0) := _root_.id rfl
@[simp] theorem len_ne : lenA false .ne = some (.int .i64 0) := _root_.id rfl
@[simp] theorem len_ro {n : Nat} {cs : List V} : lenA false (.ro n cs) = some (.int .i64 n) := _root_.id rfl
@[simp] theorem len_sl {id ver off n : Nat} {cap : Option Nat} : lenA false (.sl id ver off n cap) = some (.int .i64 n) := _root_.id rfl
attribute [simp] unA mmA extA fldA idxA faddrA beqA convA strcA nilcA
@[simp] theorem s_eql {a b : List UInt8} : strA .eql a b = some (.bool (decide (a = b))) := by simp only [strA, Option.some.injEq, V.bool.injEq]; rw [Bool.eq_iff_iff]; simp
@[simp] theorem s_neq {a b : List UInt8} : strA .neq a b = some (.bool (!decide (a = b))) := by simp only [strA, Option.some.injEq, V.bool.injEq]; rw [Bool.eq_iff_iff]; simp
def leS (a b : List UInt8) : Bool := Op.bytesLess a b || a == b
@[simp] theorem s_lss {a b : List UInt8} : strA .lss a b = some (.bool (Op.bytesLess a b)) := _root_.id rfl
@[simp] theorem s_leq {a b : List UInt8} : strA .leq a b = some (.bool (leS a b)) := _root_.id rfl
@[simp] theorem s_gtr {a b : List UInt8} : strA .gtr a b = some (.bool (!leS a b)) := _root_.id rfl
@[simp] theorem s_geq {a b : List UInt8} : strA .geq a b = some (.bool (!Op.bytesLess a b)) := _root_.id rfl
@[simp] theorem s_add {a b : List UInt8} : strA .add a b = if ((a.length + b.length : Nat) : Int) > 2 ^ 62 then none else some (.str (a ++ b)) := _root_.id rfl
theorem iaddr_ro {h : Hp} {n : Nat} {cs : List V} {kk : IntKind} {i : Int} {esz : Nat} {k : V → List Nat → Prop} : iaddrK h (.ro n cs) (.int kk i) esz k ⟨⟩ = guardK (0 ≤ i ∧ i < n ∧ i.toNat * esz < cs.length) (k (.rp cs (i.toNat * esz)) []) ⟨⟩ := _root_.id rfl
theorem ld_rp {h : Hp} {cs : List V} {o : Nat} : ldA h (.rp cs o) none = cs[o]? := _root_.id rfl
theorem ld_rps {h : Hp} {cs : List V} {o n : Nat} : ldA h (.rp cs o) (some n) = if o + n ≤ cs.length then some (.agg ((cs.drop o).take n)) else none := _root_.id rfl
theorem ld_pt {h : Hp} {id ver o esz : Nat} {cs : List V} (hb : h id = some ⟨ver, esz, cs, none⟩) : ldA h (.pt id ver o) none = cs[o]? := by simp [ldA, view, hb]
theorem ld_pts {h : Hp} {id ver o n esz : Nat} {cs : List V} (hb : h id = some ⟨ver, esz, cs, none⟩) : ldA h (.pt id ver o) (some n) = if o + n ≤ cs.length then some (.agg ((cs.drop o).take n)) else none := by simp [ldA, view, hb]
@[simp low] theorem ld_pt' {h : Hp} {id ver o : Nat} : ldA h (.pt id ver o) none = (h id).bind fun b => if b.ver = ver ∧ b.mp = none then b.cells[o]? else none := by
  simp only [ldA, view]
  cases h id with
  | none => rfl
  | some b => simp only [Option.bind_some]; split <;> rename_i q <;> split at q <;> simp_all
@[simp low] theorem ld_pts' {h : Hp} {id ver o n : Nat} : ldA h (.pt id ver o) (some n) = (h id).bind fun b => if (b.ver = ver ∧ b.mp = none) ∧ o + n ≤ b.cells.length then some (.agg ((b.cells.drop o).take n)) else none := by
  simp only [ldA, view]
  cases h id with
  | none => rfl
  | some b => simp only [Option.bind_some]; split <;> rename_i q <;> split at q <;> simp_all
@[simp] theorem mrk_sl {h : Hp} {id ver o len : Nat} {cap : Option Nat} {k : Nat → V → Hp → Prop} : mrkK h (.sl id ver o len cap) k ⟨⟩ = blkK (h id) (fun b => guardK (b.ver = ver ∧ b.mp = none ∧ b.esz = 1) (k id (.sl id ver o len cap) (upd h id (some b))) ⟨⟩) ⟨⟩ := by
  rfl
theorem clr_sl {h : Hp} {id ver o len n : Nat} {cap : Option Nat} {z : List V} {k : Nat → Hp → Prop} : clrK h (.sl id ver o len cap) n z k ⟨⟩ = blkK (h id) (fun b => guardK (b.ver = ver ∧ b.mp = none ∧ b.esz = n ∧ o + len * n ≤ b.cells.length) (k id (upd h id (some ⟨ver, b.esz, putL b.cells o (zeros z len), none⟩))) ⟨⟩) ⟨⟩ := by
  simp only [clrK]
  cases h id <;> rfl
@[simp] theorem st_pt {h : Hp} {id ver o n : Nat} {v : V} {k : Nat → Hp → Prop} : stK h (.pt id ver o) v n k ⟨⟩ = blkK (h id) (fun b => guardK (b.ver = ver ∧ b.mp = none ∧ v.cells.length = n ∧ o + n ≤ b.cells.length ∧ v.storable = true) (k id (upd h id (some ⟨ver, b.esz, putL b.cells o v.cells, none⟩))) ⟨⟩) ⟨⟩ := by
  rfl
attribute [simp] putL V.cells V.storable
@[simp] theorem ro_int {h : Hp} {n : Nat} {k : IntKind} {a : Int} : toRO h n (.int k a) = some (.int k a) := by cases n <;> rfl
@[simp] theorem ro_bool {h : Hp} {n : Nat} {a : Bool} : toRO h n (.bool a) = some (.bool a) := by cases n <;> rfl
@[simp] theorem ro_str {h : Hp} {n : Nat} {a : List UInt8} : toRO h n (.str a) = some (.str a) := by cases n <;> rfl
@[simp] theorem ro_ro {h : Hp} {n m : Nat} {cs : List V} : toRO h n (.ro m cs) = some (.ro m cs) := by cases n <;> rfl
@[simp] theorem ro_ns {h : Hp} {n : Nat} : toRO h n .ns = some (.ro 0 []) := by cases n <;> rfl
@[simp] theorem ex_int {h : Hp} {own : List Nat} {k : IntKind} {a : Int} : expV h own (.int k a) = some (.int k a) := _root_.id rfl
@[simp] theorem ex_bool {h : Hp} {own : List Nat} {a : Bool} : expV h own (.bool a) = some (.bool a) := _root_.id rfl
@[simp] theorem ex_str {h : Hp} {own : List Nat} {a : List UInt8} : expV h own (.str a) = some (.str a) := _root_.id rfl
@[simp] theorem ex_ro {h : Hp} {own : List Nat} {m : Nat} {cs : List V} : expV h own (.ro m cs) = some (.ro m cs) := _root_.id rfl
@[simp] theorem ex_ns {h : Hp} {own : List Nat} : expV h own .ns = some (.ro 0 []) := _root_.id rfl
@[simp] theorem ex_tup {h : Hp} {own : List Nat} {vs : List V} : expV h own (.tup vs) = (vs.mapM (exp1 h own)).map .tup := _root_.id rfl
@[simp] theorem ex1_int {h : Hp} {own : List Nat} {k : IntKind} {a : Int} : exp1 h own (.int k a) = some (.int k a) := _root_.id rfl
@[simp] theorem ex1_bool {h : Hp} {own : List Nat} {a : Bool} : exp1 h own (.bool a) = some (.bool a) := _root_.id rfl
@[simp] theorem ex1_str {h : Hp} {own : List Nat} {a : List UInt8} : exp1 h own (.str a) = some (.str a) := _root_.id rfl
@[simp] theorem ex1_ro {h : Hp} {own : List Nat} {m : Nat} {cs : List V} : exp1 h own (.ro m cs) = some (.ro m cs) := _root_.id rfl
@[simp] theorem ex1_ns {h : Hp} {own : List Nat} : exp1 h own .ns = some (.ro 0 []) := _root_.id rfl
attribute [simp] resV initT
/-- How a function ends. -/
def endK (e : E) (p : Prop) : Prop := match e with
  | .exit _ => False
  | _ => p
@[simp] theorem endK_norm {p : Prop} : endK .norm p = p := _root_.id rfl
@[simp] theorem endK_ret {p : Prop} : endK .ret p = p := _root_.id rfl
theorem OkF.W0 {sh : Nat → Bool} (hm : P.follows .mixedOrders = true) {f : Nat} {C : Cmd} {ts : List Nat} {nt : Nat} (hf : compF P sh f = some (C, ts, nt)) {args : List V} (nt0 : args.length ≤ nt) {v : V}
    (hw : W P C (fun e s => endK e (expV s.h [] (resV ts s.t) = some v)) ⟨initT args, none0, 0⟩ ⟨⟩ ⟨⟩) : OkF P f args (v, []) :=
  OkF.of0 hm hf nt0 (wpA_mono C (fun e s h => by cases e <;> exact h) hw)
/-- Calls whose answer owns nothing. -/
theorem call_one {f nx : Nat} {h : Hp} {vs us : List V} {v : V} {K : V → Hp → Nat → Option (List Nat) → Option (List Nat) → Prop} (hf : OkF P f us (v, [])) (hr : okRes vs (v, []) = true) (hK : K (shift nx v) h nx (rdOf vs) (some [])) : callK P f vs (some us) h nx K ⟨⟩ :=
  ⟨us, (v, []), rfl, hf, hr, by simpa [addB] using hK⟩
theorem call_bool {f nx : Nat} {h : Hp} {vs us : List V} {b : Bool} {K : V → Hp → Nat → Option (List Nat) → Option (List Nat) → Prop} (hf : OkF P f us (.bool b, [])) (hK : K (.bool b) h nx (rdOf vs) (some [])) : callK P f vs (some us) h nx K ⟨⟩ :=
  call_one hf (by simp [okRes, roFree]) (by simpa [shift] using hK)
theorem call_int {f nx : Nat} {h : Hp} {vs us : List V} {k : IntKind} {n : Int} {K : V → Hp → Nat → Option (List Nat) → Option (List Nat) → Prop} (hf : OkF P f us (.int k n, [])) (hK : K (.int k n) h nx (rdOf vs) (some [])) : callK P f vs (some us) h nx K ⟨⟩ :=
  call_one hf (by simp [okRes, roFree]) (by simpa [shift] using hK)
/-- A loop that counts up in a temporary. -/
theorem loop_to {C : Cmd} {Q : E → St → Prop} {s : St} (i N : Nat) (I : Nat → St → Prop) (hi : ∀ k s, I k s → s.t i = .int .i64 k) (h0 : I 0 s)
    (hr : ∀ (k : Nat) (s : St), k ≤ N → I k s → W P C (fun e s' => seqK (fun s' => k < N ∧ I (k + 1) s') Q e s' ⟨⟩ ⟨⟩) s ⟨⟩ ⟨⟩) : LP P C Q s ⟨⟩ ⟨⟩ := by
  refine ⟨fun s => ∃ k : Nat, k ≤ N ∧ I k s, fun s => match s.t i with | .int _ k => N - k.toNat | _ => 0, ⟨0, Nat.zero_le _, h0⟩, ?_⟩
  rintro s ⟨k, hk, hI⟩
  refine wpA_mono C (fun e s' he => ?_) (hr k s hk hI)
  cases e with
  | norm =>
    obtain ⟨h1, h2⟩ := he
    refine ⟨⟨k + 1, by omega, h2⟩, ?_⟩
    simp only [hi _ _ hI, hi _ _ h2]
    omega
  | exit j => exact he
  | ret => exact he
/-- A counting loop's round. -/
def cnt (id tc i n ti : Nat) (body : Cmd) : Cmd :=
  .seq (.reg false [⟨some tc, none, .bin .lss (.t i) (.t n), []⟩]) (.seq (.cond (.t tc) .skip (.exit id)) (.seq body (.reg false [⟨some ti, none, .bin .add (.t i) (.c (.int .i64 1)), []⟩, ⟨some i, none, .mov (.t ti), []⟩])))
/-- 'for i := 0; i < n; i++ { body }', 'for i := range n', 'for i, x := range l'. -/
theorem for_lt {id tc i n ti : Nat} {body : Cmd} (N : Nat) {Q : E → St → Prop} {s : St} (I : Nat → St → Prop) (hd : (i == tc || n == tc || i == ti || n == ti || n == i) = false) (hN : N < 2 ^ 62)
    (h0 : I 0 s) (hi : s.t i = .int .i64 0) (hn : s.t n = .int .i64 N)
    (hbody : ∀ (k : Nat) (s : St), k < N → I k s → s.t i = .int .i64 k → s.t n = .int .i64 N → W P body (fun e s' => seqK (fun s' => s'.t i = .int .i64 k ∧ s'.t n = .int .i64 N ∧ I (k + 1) ⟨upd (upd s'.t ti (.int .i64 ((k : Int) + 1))) i (.int .i64 ((k : Int) + 1)), s'.h, s'.nx⟩) Q e s' ⟨⟩ ⟨⟩) ⟨upd s.t tc (.bool true), s.h, s.nx⟩ ⟨⟩ ⟨⟩)
    (hend : ∀ s : St, I N s → s.t i = .int .i64 N → s.t n = .int .i64 N → Q (.exit id) ⟨upd s.t tc (.bool false), s.h, s.nx⟩) :
    LP P (cnt id tc i n ti body) Q s ⟨⟩ ⟨⟩ := by
  simp only [Bool.or_eq_false_iff, beq_eq_false_iff_ne, ne_eq] at hd
  obtain ⟨⟨⟨⟨d1, d2⟩, d3⟩, d4⟩, d5⟩ := hd
  refine ⟨fun s => ∃ k : Nat, k ≤ N ∧ I k s ∧ s.t i = .int .i64 k ∧ s.t n = .int .i64 N, fun s => match s.t i with | .int _ k => N - k.toNat | _ => 0, ⟨0, Nat.zero_le _, h0, hi, hn⟩, ?_⟩
  rintro s ⟨k, hk, hI, h1, h2⟩
  have hle : (2 : Nat) ^ 62 = 4611686018427387904 := by decide
  by_cases hlt : k < N
  · have hb := hbody k s hlt hI h1 h2
    simp only [cnt, wpA, runN, want, stepI, opA, X.ev, h1, h2, binA, intA, if_true, ret0, Option.map_some, cfB, List.all_nil, put, true_and]
    have : decide ((k : Int) < (N : Int)) = true := by simpa using hlt
    rw [this]
    simp only [upd_self]
    refine wpA_mono body (fun e s' he => ?_) hb
    cases e with
    | norm =>
      obtain ⟨q1, q2, q3⟩ := he
      have hw : IntKind.i64.wrap ((k : Int) + 1) = (k : Int) + 1 := IntWalk.i64_in _ (by omega)
      simp only [wpA, runN, want, stepI, opA, X.ev, q1, q2, binA, intA, if_true, ret0, Option.map_some, cfB, List.all_nil, put, true_and, upd_self, hw]
      refine ⟨⟨k + 1, by omega, q3, ?_, ?_⟩, ?_⟩
      · simp [upd]
      · simp only [upd, if_neg d5, if_neg d4]; exact q2
      · simp
        omega
    | exit j => exact he
    | ret => exact he
  · have hkN : k = N := by omega
    subst hkN
    simp only [cnt, wpA, runN, want, stepI, opA, X.ev, h1, h2, binA, intA, if_true, ret0, Option.map_some, cfB, List.all_nil, put, true_and]
    have : decide ((k : Int) < (k : Int)) = false := by simp
    rw [this]
    simp only [upd_self, if_true]
    exact hend s hI h1 h2
/-- The first of the numbers f 0, .., f (n - 1) that is not 0, or 0. -/
def fe (f : Nat → Int) : Nat → Int
  | 0 => 0
  | n + 1 => if fe f n = 0 then f n else fe f n
theorem fe_stop {f : Nat → Int} {k : Nat} (h0 : fe f k = 0) (h : f k ≠ 0) : ∀ {n}, k < n → fe f n = f k
  | 0, hn => by omega
  | n + 1, hn => by
    unfold fe
    by_cases q : k = n
    · subst q; rw [if_pos h0]
    · have := fe_stop h0 h (n := n) (by omega)
      rw [this, if_neg h]
theorem fe_step {f : Nat → Int} {k : Nat} (h0 : fe f k = 0) (h : f k = 0) : fe f (k + 1) = 0 := by
  unfold fe; rw [if_pos h0]; exact h
theorem all_take_succ {α : Type} {p : α → Bool} {l : List α} {k : Nat} {a : α} (h : l[k]? = some a) (h1 : (l.take k).all p = true) (h2 : p a = true) : (l.take (k + 1)).all p = true := by
  have hk := (List.getElem?_eq_some_iff.1 h).1
  have ha := (List.getElem?_eq_some_iff.1 h).2
  rw [List.take_succ_eq_append_getElem hk, List.all_append, h1, ha]
  simp [h2]
theorem all_false {α : Type} {p : α → Bool} {l : List α} {k : Nat} {a : α} (h : l[k]? = some a) (h2 : p a = false) : l.all p = false := by
  rw [List.all_eq_false]
  exact ⟨a, List.mem_of_getElem? h, by rw [h2]; simp⟩
/-- All of the first k. -/
def Upto {α : Type} (p : α → Bool) (l : List α) (k : Nat) : Prop := (l.take k).all p = true
theorem Upto.zero {α : Type} (p : α → Bool) (l : List α) : Upto p l 0 := by simp [Upto]
theorem Upto.succ {α : Type} {p : α → Bool} {l : List α} {k : Nat} {a : α} (h1 : Upto p l k) (h : l[k]? = some a) (h2 : p a = true) : Upto p l (k + 1) := all_take_succ h h1 h2
theorem Upto.all {α : Type} {p : α → Bool} {l : List α} (h : Upto p l l.length) : l.all p = true := by
  unfold Upto at h
  rwa [List.take_length] at h
section
variable {α : Type} {d : Cd α} {l : List α} {k n j : Nat} {a : α} {h : Hp}
/-- Reading rows of elements. -/
theorem iaddr_fl {kk : IntKind} {K : V → List Nat → Prop} (hn : d.sz = n) (hp : 0 < n) (e : l[k]? = some a) : iaddrK h (.ro l.length (fl d l)) (.int kk k) n K ⟨⟩ = K (.rp (fl d l) (k * n)) [] := by
  have hk := (List.getElem?_eq_some_iff.1 e).1
  have h2 := fl_le hn e
  rw [iaddr_ro]
  have : (0 ≤ (k : Int) ∧ (k : Int) < (l.length : Nat) ∧ (k : Int).toNat * n < (fl d l).length) = True := by
    simp only [eq_iff_iff, iff_true, Int.toNat_natCast]
    omega
  rw [this]
  simp
theorem ld_fls (hn : d.sz = n) (e : l[k]? = some a) : ldA h (.rp (fl d l) (k * n)) (some n) = some (.agg (d.cells a)) := by
  rw [ld_rps, if_pos (fl_le hn e), fl_take hn e]
theorem ld_fl (hn : d.sz = n) (hj : j < n) (e : l[k]? = some a) : ldA h (.rp (fl d l) (k * n + j)) none = (d.cells a)[j]? := by
  rw [ld_rp, fl_at hn hj e]
theorem ld_fl0 (hn : d.sz = n) (hj : 0 < n) (e : l[k]? = some a) : ldA h (.rp (fl d l) (k * n)) none = (d.cells a)[0]? := by
  rw [ld_rp]; exact fl_at (j := 0) hn hj e
end
theorem wrap_nat {k : Nat} (h : k < 2 ^ 63) : IntKind.i64.wrap (k : Int) = k := IntWalk.i64_in _ (by have : (2 : Nat) ^ 63 = 9223372036854775808 := (by decide); omega)
theorem prev_get {α : Type} {l : List α} {j : Nat} {a : α} (h : l[j]? = some a) : ∃ z, 0 < j → l[j - 1]? = some z := by
  have hj := (List.getElem?_eq_some_iff.1 h).1
  cases j with
  | zero => exact ⟨a, fun h => by omega⟩
  | succ j => exact ⟨l[j], fun _ => List.getElem?_eq_getElem (by omega)⟩
theorem wrap_pred {j : Nat} (h : 0 < j) (hj : j < 2 ^ 62) : IntKind.i64.wrap ((j : Int) - 1) = ((j - 1 : Nat) : Int) := by
  have : (2 : Nat) ^ 62 = 4611686018427387904 := by decide
  rw [IntWalk.i64_in _ (by omega)]
  omega
/-- Whether the one before is so. -/
def before {α : Type} (l : List α) (p : α → Bool) (k : Nat) : Bool := match k with
  | 0 => false
  | k + 1 => match l[k]? with
    | some a => p a
    | none => false
theorem before_zero {α : Type} {l : List α} {p : α → Bool} {k : Nat} (h : ¬ 0 < k) : before l p k = false := by
  have : k = 0 := by omega
  subst this; rfl
theorem before_pos {α : Type} {l : List α} {p : α → Bool} {k : Nat} {z : α} (h : 0 < k) (hz : l[k - 1]? = some z) : before l p k = p z := by
  cases k with
  | zero => omega
  | succ k => simp at hz; simp only [before, hz]
/-- None of the first k. -/
def Not' {α : Type} (p : α → Bool) (l : List α) (k : Nat) : Prop := ∀ (i : Nat) a, i < k → l[i]? = some a → p a = false
theorem Not'.zero {α : Type} (p : α → Bool) (l : List α) : Not' p l 0 := fun i a h => by omega
theorem Not'.succ {α : Type} {p : α → Bool} {l : List α} {k : Nat} {a : α} (h1 : Not' p l k) (h : l[k]? = some a) (h2 : p a = false) : Not' p l (k + 1) := fun i b hi hb => by
  by_cases e : i = k
  · subst e; rw [h] at hb; injection hb with hb; subst hb; exact h2
  · have hik : i < k := by omega
    exact h1 i b hik hb
theorem find_stop {α : Type} {p : α → Bool} : ∀ {l : List α} {k : Nat} {a : α}, Not' p l k → l[k]? = some a → p a = true → l.find? p = some a
  | [], k, a, _, h, _ => by simp at h
  | b :: l, 0, a, _, h, h2 => by simp at h; subst h; simp [h2]
  | b :: l, k + 1, a, h1, h, h2 => by
    have hb : p b = false := h1 0 b (by omega) rfl
    rw [List.find?_cons, hb]
    exact find_stop (fun i c hi hc => h1 (i + 1) c (Nat.succ_lt_succ hi) (by simpa using hc)) (by simpa using h) h2
theorem find_none {α : Type} {p : α → Bool} {l : List α} (h : Not' p l l.length) : l.find? p = none := by
  rw [List.find?_eq_none]
  intro a ha
  obtain ⟨i, hi⟩ := List.getElem?_of_mem ha
  have := h i a (List.getElem?_eq_some_iff.1 hi).1 hi
  simp [this]
theorem any_stop {α : Type} {p : α → Bool} {l : List α} {k : Nat} {a : α} (h : l[k]? = some a) (h2 : p a = true) : l.any p = true := by
  rw [List.any_eq_true]
  exact ⟨a, List.mem_of_getElem? h, h2⟩
theorem any_none {α : Type} {p : α → Bool} {l : List α} (h : Not' p l l.length) : l.any p = false := by
  rw [List.any_eq_false]
  intro a ha
  obtain ⟨i, hi⟩ := List.getElem?_of_mem ha
  have := h i a (List.getElem?_eq_some_iff.1 hi).1 hi
  simp [this]
theorem okRes_of {vs : List V} {r : V × List LB} (h : vs.all noRef = true) : okRes vs r = true := by unfold okRes; rw [h]; rfl
attribute [simp] shift shiftL noRef V.pure V.pureL fl_pure
theorem fe_zero {f : Nat → Int} : ∀ {n : Nat}, fe f n = 0 → ∀ k, k < n → f k = 0
  | 0, _, k, hk => by omega
  | n + 1, h, k, hk => by
    unfold fe at h
    split at h
    · rename_i h0
      by_cases e : k = n
      · subst e; exact h
      · have hkn : k < n := by omega
        exact fe_zero h0 k hkn
    · rename_i h0; exact absurd h h0
@[simp] theorem ro_agg {h : Hp} {n : Nat} {cs : List V} (hp : V.pureL cs = true) : toRO h n (.agg cs) = some (.agg cs) := by
  exact if_pos hp
@[simp] theorem resK_some {r : R} {K : V → Hp → Nat → Option (List Nat) → Option (List Nat) → Prop} : resK (some r) K ⟨⟩ = K r.v r.h r.nx r.rd r.wr := _root_.id rfl
@[simp] theorem step_bs {len esz : Nat} {zero : List V} {parts : List (Nat × X)} {s : St} {K : V → Hp → Nat → Option (List Nat) → Option (List Nat) → Prop} : SI P (.bs len esz zero parts) s K ⟨⟩ ⟨⟩ = resK ((fillA esz (X.ev s.t) (zeros zero len) parts).map fun cs => ⟨.sl s.nx 0 0 len (some len), upd s.h s.nx (some ⟨0, esz, cs, none⟩), s.nx + 1, some [s.nx], some [s.nx]⟩) K ⟨⟩ := _root_.id rfl
attribute [simp] zeros
end Go.Ex
