/- All small operations; states; what commands compute. -/
import Derived.Test.YtaegjihmpgdfcaaExS
set_option linter.unusedVariables false
set_option linter.unusedSimpArgs false
namespace Go.Ex
open Go.RowKit
section
variable {φ : Nat → Nat × Nat} {h : Hp} {S : Nat → Prop} {w w0 : World} {P : Program} {a : Act} {o : Oper} {t : Nat → V} {sh : Nat → Bool} {r : R} {nx : Nat}
theorem isU8_eq {e : TypeId} (he : isU8 P e = true) : P.underlying e = some (.int .u8) := by
  unfold isU8 at he
  split at he
  · assumption
  · cases he
theorem opSound {c : Cop} (hR : Rel P w0 φ S h w) (ht : ∀ n, Rep φ h S w (t n) (a.tmps.getD n undef)) (hc : compOp P sh o.op = some c) (e : opA c (X.ev t) h nx = some r)
    (hf : ∀ id, nx ≤ id → id < r.nx → h id = none) : Sound P o a w w0 φ S h r := by
  generalize hop : o.op = op at hc
  unfold compOp at hc
  split at hc
  · obtain ⟨y, hy, rfl⟩ := comp1_eq hc
    exact s_mov hR ht hy (.inl hop) e
  · obtain ⟨y, hy, rfl⟩ := comp1_eq hc
    exact s_mov hR ht hy (.inr hop) e
  · split at hc
    · injection hc with hc
      subst hc
      exact s_pick hR ht (by assumption) (by assumption) (by assumption) hop e
    · cases hc
  · unfold compBin at hc
    split at hc
    · obtain ⟨u, v, hu, hv, rfl⟩ := comp2_eq hc
      exact s_bin hR ht hop hu hv e
    · obtain ⟨u, v, hu, hv, rfl⟩ := comp2_eq hc
      exact s_bin hR ht hop hu hv e
    · split at hc
      · obtain ⟨u, v, hu, hv, rfl⟩ := comp2_eq hc
        exact s_beq (neg := false) hR ht hop rfl (by assumption) hu hv e
      · obtain ⟨u, v, hu, hv, rfl⟩ := comp2_eq hc
        exact s_beq (neg := true) hR ht hop rfl (by assumption) hu hv e
      · cases hc
    · split at hc
      · split at hc
        · obtain ⟨u, hu, rfl⟩ := comp1_eq hc
          exact s_isnil (sl := false) (neg := false) hR ht hop rfl ⟨⟨_, by assumption⟩, by assumption⟩ hu e
        · obtain ⟨u, hu, rfl⟩ := comp1_eq hc
          exact s_isnil (sl := false) (neg := true) hR ht hop rfl ⟨⟨_, by assumption⟩, by assumption⟩ hu e
        · cases hc
      · cases hc
    · split at hc
      · split at hc
        · obtain ⟨u, hu, rfl⟩ := comp1_eq hc
          exact s_isnil (sl := true) (neg := false) hR ht hop rfl ⟨⟨_, by assumption⟩, by assumption⟩ hu e
        · obtain ⟨u, hu, rfl⟩ := comp1_eq hc
          exact s_isnil (sl := true) (neg := true) hR ht hop rfl ⟨⟨_, by assumption⟩, by assumption⟩ hu e
        · cases hc
      · cases hc
    · split at hc
      · obtain ⟨u, v, hu, hv, rfl⟩ := comp2_eq hc
        exact s_seq (neg := false) hR ht hop rfl (by assumption) (by assumption) hu hv e
      · obtain ⟨u, v, hu, hv, rfl⟩ := comp2_eq hc
        exact s_seq (neg := true) hR ht hop rfl (by assumption) (by assumption) hu hv e
      · cases hc
    · cases hc
  · obtain ⟨u, hu, rfl⟩ := comp1_eq hc
    exact s_un hR ht hop hu e
  · split at hc
    · obtain ⟨u, hu, rfl⟩ := comp1_eq hc
      exact s_conv hR ht hop (by assumption) (by assumption) hu e
    · obtain ⟨u, hu, rfl⟩ := comp1_eq hc
      exact s_strc hR ht hop (by assumption) (by assumption) hu e
    · split at hc
      · rename_i hu8
        obtain ⟨u, hu, rfl⟩ := comp1_eq hc
        exact s_s2b hR ht hf hop (by assumption) (by assumption) (isU8_eq hu8) hu e
      · cases hc
    · split at hc
      · rename_i hu8
        obtain ⟨u, hu, rfl⟩ := comp1_eq hc
        exact s_b2s hR ht hf hop (by assumption) (by assumption) (isU8_eq hu8) hu e
      · cases hc
    · split at hc
      · rename_i hu8
        obtain ⟨u, hu, rfl⟩ := comp1_eq hc
        exact s_mrk hR ht hf hop hu8.1 (by assumption) (isU8_eq hu8.2) hu e
      · cases hc
    · cases hc
  · obtain ⟨u, hu, rfl⟩ := comp1_eq hc
    exact s_ext hR ht hop hu e
  · split at hc
    · rename_i fd hfd
      obtain ⟨sz, hsz, hc⟩ := Option.bind_eq_some_iff.1 hc
      obtain ⟨u, hu, rfl⟩ := comp1_eq hc
      exact s_fld hR ht hop hfd hsz hu e
    · cases hc
  · split at hc
    · obtain ⟨u, v, hu, hv, rfl⟩ := comp2_eq hc
      exact s_idx hR ht hop (by assumption) hu hv e
    · cases hc
  · split at hc
    · rename_i fd hfd
      split at hc
      · split at hc
        · obtain ⟨u, hu, rfl⟩ := comp1_eq hc
          exact s_faddr hR ht hop hfd (by assumption) (by assumption) hu e
        · cases hc
      · cases hc
    · cases hc
  · split at hc
    · split at hc
      · split at hc
        · obtain ⟨u, v, hu, hv, rfl⟩ := comp2_eq hc
          exact s_iaddr hR ht hop (by assumption) (by assumption) (by assumption) hu hv e
        · cases hc
      · cases hc
    · cases hc
  · obtain ⟨sz, hsz, hc⟩ := Option.bind_eq_some_iff.1 hc
    obtain ⟨u, hu, rfl⟩ := comp1_eq hc
    exact s_ld hR ht hop hsz hu e
  · split at hc
    · obtain ⟨u, v, hu, hv, rfl⟩ := comp2_eq hc
      exact s_st hR ht hf hop (by assumption) (by assumption) hu hv e
    · cases hc
  · obtain ⟨u, hu, rfl⟩ := comp1_eq hc
    exact s_box hR ht hf hop hu e
  · split at hc
    · split at hc
      · rw [Option.map_eq_some_iff] at hc
        obtain ⟨cs, hcs, rfl⟩ := hc
        exact s_ala hR ht hf hop hcs e
      · cases hc
    · rw [Option.map_eq_some_iff] at hc
      obtain ⟨cs, hcs, rfl⟩ := hc
      exact s_alloc hR ht hf hop hcs e
  · split at hc
    · split at hc
      · split at hc
        · rename_i hq
          injection hc with hc
          subst hc
          exact s_bs hR ht hf hop (by assumption) (by assumption) (by assumption) (by assumption) hq.1 hq.2.1 hq.2.2 e
        · cases hc
      · cases hc
    · cases hc
  · split at hc
    · split at hc
      · split at hc
        · injection hc with hc
          subst hc
          exact s_bld hR ht hf hop (by assumption) (by assumption) (by assumption) (by assumption) e
        · cases hc
      · cases hc
    · cases hc
  · split at hc
    · split at hc
      · split at hc
        · rename_i hq
          obtain ⟨u, v, hu, hv, rfl⟩ := comp2_eq hc
          exact s_mk hR ht hf hop (by assumption) (by assumption) (by assumption) hq.1 hq.2 hu hv e
        · cases hc
      · cases hc
    · cases hc
  · split at hc
    · obtain ⟨u, hu, rfl⟩ := comp1_eq hc
      exact s_slcStr hR ht hf hop (by assumption) hu (by assumption) (by assumption) e
    · split at hc
      · split at hc
        · obtain ⟨u, hu, rfl⟩ := comp1_eq hc
          exact s_slc hR ht hf hop (by assumption) (by assumption) hu (by assumption) (by assumption) e
        · cases hc
      · cases hc
    · split at hc
      · split at hc
        · obtain ⟨u, hu, rfl⟩ := comp1_eq hc
          exact s_sla hR ht hf hop (by assumption) (by assumption) hu (by assumption) (by assumption) e
        · cases hc
      · cases hc
    · cases hc
  · split at hc
    · rw [Option.map_eq_some_iff] at hc
      obtain ⟨cs, hcs, rfl⟩ := hc
      exact s_fnc hR ht hop (by assumption) hcs e
    · cases hc
  · obtain ⟨u, hu, rfl⟩ := comp1_eq hc
    exact s_nilc hR ht hop hu e
  · split at hc
    · injection hc with hc
      subst hc
      exact s_mnew hR ht hf hop (by assumption) e
    · cases hc
  · split at hc
    · split at hc
      · obtain ⟨u, v, hu, hv, rfl⟩ := comp2_eq hc
        exact s_mget hR ht hop (by assumption) (by assumption) (by assumption) hu hv e
      · obtain ⟨u, v, hu, hv, rfl⟩ := comp2_eq hc
        exact s_mget hR ht hop (by assumption) (by assumption) (by assumption) hu hv e
      · cases hc
    · cases hc
  · split at hc
    · split at hc
      · injection hc with hc
        subst hc
        exact s_mset hR ht hf hop (by assumption) (by assumption) (by assumption) (by assumption) (by assumption) e
      · injection hc with hc
        subst hc
        exact s_mset hR ht hf hop (by assumption) (by assumption) (by assumption) (by assumption) (by assumption) e
      · cases hc
    · cases hc
  · rename_i c0
    obtain ⟨cal, args, ts⟩ := c0
    simp only at hc
    split at hc
    · rename_i b _ _
      have arr : ∀ {l : List Operand}, args.toList = l → args = l.toArray := fun hl => by rw [← hl, Array.toArray_toList]
      unfold compBuiltin at hc
      split at hc
      · rename_i x hl
        have := arr hl
        subst this
        split at hc
        · rename_i hty
          obtain ⟨ty, h0, hty⟩ := Option.bind_eq_some_iff.1 hty
          obtain ⟨u, hu, rfl⟩ := comp1_eq hc
          exact s_len (str := true) hR ht hop h0 hty hu e
        · rename_i hty
          obtain ⟨ty, h0, hty⟩ := Option.bind_eq_some_iff.1 hty
          obtain ⟨u, hu, rfl⟩ := comp1_eq hc
          exact s_len (str := false) hR ht hop h0 (by simpa using ⟨_, hty⟩) hu e
        · rename_i hty
          obtain ⟨ty, h0, hty⟩ := Option.bind_eq_some_iff.1 hty
          obtain ⟨u, hu, rfl⟩ := comp1_eq hc
          exact s_mlen hR ht hop h0 hty hu e
        · cases hc
      · rename_i x hl
        have := arr hl
        subst this
        split at hc
        · rename_i hty
          obtain ⟨ty, h0, hty⟩ := Option.bind_eq_some_iff.1 hty
          split at hc
          · split at hc
            · rename_i hq
              obtain ⟨u, hu, rfl⟩ := comp1_eq hc
              exact s_clr hR ht hf hop h0 hty (by assumption) (by assumption) hq.1 hq.2 hu e
            · cases hc
          · cases hc
        · cases hc
      · rename_i x y hl
        have := arr hl
        subst this
        obtain ⟨u, v, hu, hv, rfl⟩ := comp2_eq hc
        exact s_mm (mx := true) (ty := 0) hR ht hop hu hv e
      · rename_i x y hl
        have := arr hl
        subst this
        obtain ⟨u, v, hu, hv, rfl⟩ := comp2_eq hc
        exact s_mm (mx := false) (ty := 0) hR ht hop hu hv e
      · rename_i x y hl
        have := arr hl
        subst this
        split at hc
        · rename_i el el' hty hty'
          obtain ⟨ty, h0, hty⟩ := Option.bind_eq_some_iff.1 hty
          obtain ⟨ty', h1, hty'⟩ := Option.bind_eq_some_iff.1 hty'
          split at hc
          · rename_i i hi
            split at hc
            · rename_i hq
              obtain ⟨q1, q2, q3, q4, q5, q6⟩ := hq
              obtain ⟨u, v, hu, hv, rfl⟩ := comp2_eq hc
              exact s_app hR ht hf hop h0 h1 hty hty' (fun k => by simp) hi q6 q3 q4 q5 hu hv e
            · cases hc
          · cases hc
        · rename_i el hty hty'
          obtain ⟨ty, h0, hty⟩ := Option.bind_eq_some_iff.1 hty
          obtain ⟨ty', h1, hty'⟩ := Option.bind_eq_some_iff.1 hty'
          split at hc
          · rename_i i hi
            split at hc
            · rename_i hq
              obtain ⟨q1, q2, q3, q4⟩ := hq
              obtain ⟨u, v, hu, hv, rfl⟩ := comp2_eq hc
              have e' : opA (.app i.size i.bytes u v) (X.ev t) h nx = some r := by rw [q1, q2]; exact e
              exact s_app hR ht hf hop h0 h1 hty hty' (fun k => by simp) hi q4 (by omega) (by omega) (by omega) hu hv e'
            · cases hc
          · cases hc
        · cases hc
      · cases hc
    · split at hc
      · split at hc
        · injection hc with hc
          subst hc
          (repeat' split at e) <;> (unfold opA at e; cases e)
        · cases hc
      · cases hc
    · injection hc with hc
      subst hc
      unfold opA at e
      cases e
    · cases hc
  · cases hc
theorem opSound' {c : Cop} (hR : Rel P w0 φ S h w) (ht : ∀ n, Rep φ h S w (t n) (a.tmps.getD n undef)) (hc : IsOp P sh o.op c) (e : opA c (X.ev t) h nx = some r)
    (hf : ∀ id, nx ≤ id → id < r.nx → h id = none) : Sound' P o a w w0 φ S h r := by
  rcases hc with hc | hc
  · exact (opSound hR ht hc e hf).up
  · obtain ⟨ty, len, parts, el, n, z, ps, h1, h2, h3, h4, h5, h6, h7, h8, h9, rfl⟩ := broC_is hc
    exact s_bro hR ht h1 h2 h3 h4 h5 h6 h7 h8 h9 e
/-- Whether an operation is gone: none where it can't be told. -/
def want (t : Nat → V) : Option (Nat × Bool) → Option Bool
  | none => some true
  | some (d, b) => match t d with
    | .bool b' => some (b' == b)
    | .junk => none
    | _ => some false
def put (t : Nat → V) : Option Nat → V → Nat → V
  | none, _ => t
  | some d, v => upd t d v
theorem rep_put (ht : ∀ n, Rep φ h S w (t n) (a.tmps.getD n undef)) {d : Option Nat} {v : V} {x : Value} (hd : ∀ n, d = some n → n < a.tmps.size) (hv : Rep φ h S w v x) :
    ∀ n, Rep φ h S w (put t d v n) ((a.put d x).tmps.getD n undef) := by
  intro n
  cases d with
  | none => exact ht n
  | some d =>
    have hdl := hd d rfl
    simp only [put, upd, Act.put]
    by_cases hn : n = d
    · subst hn
      rw [if_pos rfl]
      simpa [hdl] using hv
    · rw [if_neg hn]
      have := ht n
      simpa [Array.getElem?_setIfInBounds_ne (Ne.symm hn)] using this
theorem put_size (d : Option Nat) (x : Value) : (a.put d x).tmps.size = a.tmps.size := by
  cases d <;> simp [Act.put]
theorem put_defers' (d : Option Nat) (x : Value) : (a.put d x).defers = a.defers := by
  cases d <;> rfl
theorem undef_rep : Rep φ h S w (.tup []) undef := .tup _ _ rfl (fun i c v hc => by simp at hc)
theorem wanted_eq {ops : Array Oper} {g : Option (Nat × Bool)} {g' : Option (Nat × Bool)} {b : Bool} (ht : ∀ n, Rep φ h S w (t n) (a.tmps.getD n undef)) (hg : o.guard = g)
    (hg' : g' = g.bind fun (j, b) => ((ops[j]?).bind (·.dst)).map fun d => (d, b)) (hgs : g.isSome = true → g'.isSome = true) (hsz : ∀ d b, g' = some (d, b) → d < a.tmps.size)
    (hw : want t g' = some b) : Region.wanted o (yielded ops a.tmps) = b := by
  cases g with
  | none =>
    simp at hg'
    subst hg'
    simp only [want] at hw
    injection hw with hw
    simp [Region.wanted, hg, hw]
  | some jb =>
    obtain ⟨j, b0⟩ := jb
    simp only [Option.bind_some] at hg'
    obtain ⟨db, hdb⟩ := Option.isSome_iff_exists.1 (hgs rfl)
    rw [hg', Option.map_eq_some_iff] at hdb
    obtain ⟨d, hd, rfl⟩ := hdb
    rw [hd] at hg'
    simp only [Option.map_some] at hg'
    subst hg'
    have hdl := hsz d b0 rfl
    have hr := ht d
    have hy : a.tmps[d]? = some (a.tmps.getD d undef) := by simp [hdl]
    unfold want at hw
    simp only at hw
    simp only [Region.wanted, hg, yielded, hd, Option.bind_some, hy]
    generalize a.tmps.getD d undef = x at hr
    cases hv : t d <;> rw [hv] at hw hr <;> simp only at hw <;> first | (cases hw; done) | skip
    all_goals
      injection hw with hw
      subst hw
      cases hr <;> simp
end
structure St where
  t : Nat → V
  h : Hp
  nx : Nat
def noRef : V → Bool
  | .ns | .np | .em | .ne => true
  | v => v.pure
def rdOf (vs : List V) : Option (List Nat) := if vs.all noRef = true then some [] else none
/-- What a call answers doesn't read blocks of ours that can change. -/
def okRes (args : List V) (r : V × List LB) : Bool := args.all noRef || (roFree r.1 && r.2.all fun b => roFreeL b.cells)
def disj : Option (List Nat) → Option (List Nat) → Bool
  | some [], _ => true
  | _, some [] => true
  | some a, some b => a.all fun x => !b.contains x
  | _, _ => false
abbrev FW := Option (List Nat) × Option (List Nat)
def cfB (cf : List Nat) (acc : List FW) (rd wr : Option (List Nat)) : Bool :=
  cf.all fun i => match acc[i]? with
    | some (r, w) => disj w rd && disj r wr
    | none => false
def newIds (nx n : Nat) : List Nat := (List.range n).map fun i => nx + i
/-- What a call reads and writes of our blocks. -/
def callRd (vs : List V) (nx n : Nat) : Option (List Nat) := match n with
  | 0 => rdOf vs
  | n + 1 => if vs.all noRef = true then some (newIds nx (n + 1)) else none
def callWr (vs : List V) (nx n : Nat) : Option (List Nat) := match n with
  | 0 => some []
  | n + 1 => if vs.all noRef = true then some (newIds nx (n + 1)) else none
@[simp] theorem callRd_zero {vs : List V} {nx : Nat} : callRd vs nx 0 = rdOf vs := _root_.id rfl
@[simp] theorem callWr_zero {vs : List V} {nx : Nat} : callWr vs nx 0 = some [] := _root_.id rfl
theorem callRd_one {vs : List V} {nx : Nat} : callRd vs nx 1 = if vs.all noRef = true then some [nx] else none := _root_.id rfl
theorem callWr_one {vs : List V} {nx : Nat} : callWr vs nx 1 = if vs.all noRef = true then some [nx] else none := _root_.id rfl
theorem mem_newIds {nx n id : Nat} : id ∈ newIds nx n ↔ nx ≤ id ∧ id < nx + n := by
  simp only [newIds, List.mem_map, List.mem_range]
  exact ⟨fun ⟨i, h1, h2⟩ => by omega, fun h => ⟨id - nx, by omega, by omega⟩⟩
/-- One operation. -/
def stepI (P : Program) (op : Cop) (s : St) (K : V → Hp → Nat → Option (List Nat) → Option (List Nat) → Prop) : Prop :=
  match op with
  | .call f xs => ∃ as r, (xs.map (X.ev s.t)).mapM (toRO s.h 8) = some as ∧ OkF P f as r ∧ okRes (xs.map (X.ev s.t)) r = true ∧
      K (shift s.nx r.1) (addB s.h s.nx r.2) (s.nx + r.2.length) (callRd (xs.map (X.ev s.t)) s.nx r.2.length) (callWr (xs.map (X.ev s.t)) s.nx r.2.length)
  | .shr f xs => ∃ v h' nx', SOk P f (xs.map (X.ev s.t)) s.h s.nx v h' nx' ∧ K v h' nx' none none
  | .shq f xs => ∃ v, SOk P f (xs.map (X.ev s.t)) s.h s.nx v s.h s.nx ∧ K v s.h s.nx none (some [])
  | .calv x xs => match x.ev s.t with
    | .fn f caps => ∃ v h' nx', SOk P f (xs.map (X.ev s.t) ++ caps) s.h s.nx v h' nx' ∧ (∃ fn, P.funcs[f]? = some fn ∧ fn.body.isSome = true ∧ fn.name ≠ "runtime.NumGoroutine") ∧ K v h' nx' none none
    | _ => False
  | c => match opA c (X.ev s.t) s.h s.nx with
    | some r => K r.v r.h r.nx r.rd r.wr
    | none => False
def runL (P : Program) : List Ins → St → List FW → (St → Prop) → Prop
  | [], s, _, K => K s
  | i :: l, s, acc, K => match want s.t i.g with
    | some true => stepI P i.op s fun v h nx rd wr => cfB i.cf acc rd wr = true ∧ runL P l ⟨put s.t i.dst v, h, nx⟩ (acc ++ [(rd, wr)]) K
    | some false => runL P l ⟨put s.t i.dst (.tup []), s.h, s.nx⟩ (acc ++ [(some [], some [])]) K
    | none => False
/-- Instructions in the order of the text. -/
def runN (P : Program) : List Ins → St → (St → Prop) → Prop
  | [], s, K => K s
  | i :: l, s, K => match want s.t i.g with
    | some true => stepI P i.op s fun v h nx _ _ => runN P l ⟨put s.t i.dst v, h, nx⟩ K
    | some false => runN P l ⟨put s.t i.dst (.tup []), s.h, s.nx⟩ K
    | none => False
inductive E where
  | norm
  | exit (id : Nat)
  | ret
/-- A loop: by an invariant and a measure. -/
def Loops (W : (E → St → Prop) → St → Prop) (Q : E → St → Prop) (s : St) : Prop :=
  ∃ (I : St → Prop) (μ : St → Nat), I s ∧ ∀ s, I s → W (fun e s' => match e with | .norm => I s' ∧ μ s' < μ s | e => Q e s') s
def wpA (P : Program) : Cmd → (E → St → Prop) → St → Prop
  | .skip, Q, s => Q .norm s
  | .reg d l, Q, s => match d with
    | true => runL P l s [] (Q .norm)
    | false => runN P l s (Q .norm)
  | .seq a b, Q, s => wpA P a (fun e s' => match e with | .norm => wpA P b Q s' | e => Q e s') s
  | .cond c a b, Q, s => match c.ev s.t with
    | .bool true => wpA P a Q s
    | .bool false => wpA P b Q s
    | _ => False
  | .block id c, Q, s => wpA P c (fun e s' => match e with | .exit i => if i = id then Q .norm s' else Q e s' | e => Q e s') s
  | .loop c, Q, s => Loops (wpA P c) Q s
  | .exit id, Q, s => Q (.exit id) s
  | .ret, Q, s => Q .ret s
end Go.Ex
