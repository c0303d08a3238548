/- Regions and code. -/
import Derived.Test.YtaegjihmpgdfcaaExJ
set_option linter.unusedVariables false
set_option linter.unusedSimpArgs false
namespace Go.Ex
open Go.RowKit
/-- Touches blocks. -/
def Cop.touch : Cop → Bool
  | .mov _ | .pick .. | .bin .. | .beq .. | .seq .. | .un .. | .conv .. | .strc _ | .len .. | .mm .. | .ext .. | .fld .. | .idx .. | .faddr .. | .bld .. | .fnc .. | .nilc _ | .bro .. => false
  | _ => true
/-- Can write into blocks or make them. -/
def Cop.writes : Cop → Bool
  | .ld .. | .iaddr .. | .isnil .. | .slc .. | .sla .. | .b2s _ | .mlen _ | .mget .. => false
  | c => c.touch
def Cop.xs : Cop → List X
  | .mov x | .un _ x | .conv _ x | .s2b x | .b2s x | .strc x | .len _ x | .ext x _ | .fld x _ _ | .faddr x _ | .ld x _ | .box x | .nilc x | .isnil _ _ x | .mlen x | .clr x _ _ | .mrk x => [x]
  | .pick a b c => [a, b, c]
  | .never | .mnew => []
  | .mset _ x y z => [x, y, z]
  | .bin _ x y | .beq _ x y | .seq _ _ x y | .mm _ x y | .idx x y | .iaddr x y _ | .st x y _ | .mk _ _ _ x y | .app _ _ x y | .mget _ _ _ x y | .cpy x y => [x, y]
  | .alloc _ => []
  | .bs _ _ _ ps => ps.map (·.2)
  | .bld _ ps => ps.map (·.2.2)
  | .slc _ x lo hi _ => x :: (lo.toList ++ hi.toList)
  | .sla x lo hi _ _ => x :: (lo.toList ++ hi.toList)
  | .ala _ _ => []
  | .bro _ _ _ ps => ps.map (·.2)
  | .fnc _ xs | .call _ xs | .shr _ xs | .shq _ xs => xs
  | .calv x xs => x :: xs
def xTmp : X → List Nat
  | .t n => [n]
  | .c _ => []
/-- The temporaries that an instruction reads or writes. -/
def Ins.names (i : Ins) : List Nat := i.dst.toList ++ (i.g.map (·.1)).toList ++ i.op.xs.flatMap xTmp
/-- Used as what is appended, in the same region. -/
def variadic (ops : Array Oper) (o : Oper) : Bool := match o.dst with
  | some d => ops.toList.any fun q => match q.op with
    | .call c => match c.callee, c.args.toList with
      | .builtin .append, [_, .tmp t] => t == d
      | _, _ => false
    | _ => false
  | none => false
def insOp (P : Program) (sh : Nat → Bool) (ops : Array Oper) (o : Oper) : Cop := match (if variadic ops o = true then broC P o.op else none) with
  | some c => c
  | none => (compOp P sh o.op).getD .never
def compIns (P : Program) (sh : Nat → Bool) (nt : Nat) (ops : Array Oper) (cf : List Nat) (o : Oper) : Option Ins :=
  if o.dst.all (fun d => decide (d < nt)) = true then (match o.guard with
      | none => some ⟨o.dst, none, insOp P sh ops o, cf⟩
      | some (j, b) => match (ops[j]?).bind (·.dst) with
        | some d => if d < nt then some ⟨o.dst, some (d, b), insOp P sh ops o, cf⟩ else none
        | none => none) else none
/-- What comes ahead of each operation, whatever the order. -/
def befs : List Oper → List (List Nat) → List (List Nat)
  | [], acc => acc
  | o :: r, acc => befs r (acc ++ [((o.after.toList.filter (Region.binds .any)).flatMap fun e => e.on :: acc.getD e.on []).eraseDups])
def edgesOk (l : List Oper) : Bool := l.zipIdx.all fun (o, j) => o.after.all fun e => !Region.binds .any e || decide (e.on < j)
def compSeq (P : Program) (sh : Nat → Bool) (nt : Nat) (ops : Array Oper) : List Oper → Option (List Ins)
  | [] => some []
  | o :: r => match compIns P sh nt ops [] o, compSeq P sh nt ops r with
    | some i, some l => some (i :: l)
    | _, _ => none
/-- The conflicts of a region that draws its order. -/
def withCf (bf : List (List Nat)) (l : List Ins) : List Ins :=
  l.zipIdx.map fun (i, j) => { i with cf := if i.op.touch then (List.range j).filter fun k => !(bf.getD j []).contains k && (match l[k]? with | some k => k.op.touch && (k.op.writes || i.op.writes) | none => false) else [] }
def tmpsOk (bf : List (List Nat)) (l : List Ins) : Bool :=
  l.zipIdx.all fun (i, j) => (List.range j).all fun k => (bf.getD j []).contains k || (match l[k]? with
    | some k => k.dst.all (fun d => !i.names.contains d) && i.dst.all (fun d => !k.names.contains d)
    | none => true)
def compReg (P : Program) (sh : Nat → Bool) (nt : Nat) (ops : Array Oper) (draw : Bool) : Option Cmd :=
  match compSeq P sh nt ops ops.toList with
  | none => none
  | some l => if draw then
      (if edgesOk ops.toList = true ∧ tmpsOk (befs ops.toList []) l = true then some (.reg true (withCf (befs ops.toList []) l)) else none)
    else some (.reg false l)
def compC (P : Program) (sh : Nat → Bool) (nt : Nat) : Code → Option Cmd
  | .skip => some .skip
  | .region _ ops draw => compReg P sh nt ops draw
  | .seq a b => match compC P sh nt a, compC P sh nt b with
    | some a, some b => some (.seq a b)
    | _, _ => none
  | .cond c a b => match compX c, compC P sh nt a, compC P sh nt b with
    | some c, some a, some b => some (.cond c a b)
    | _, _, _ => none
  | .block id c => (compC P sh nt c).map (.block id)
  | .loop c => (compC P sh nt c).map .loop
  | .exit id => some (.exit id)
  | .ret => some .ret
  | _ => none
/-- Where a walk stands. -/
structure Std (P : Program) (w0 : World) (nt : Nat) (ds : List Deferred) (φ : Nat → Nat × Nat) (S : Nat → Prop) (s : St) (a : Act) (w : World) : Prop where
  rel : Rel P w0 φ S s.h w
  tm : ∀ n, Rep φ s.h S w (s.t n) (a.tmps.getD n undef)
  size : a.tmps.size = nt
  fresh : ∀ id, s.nx ≤ id → s.h id = none
  ds : a.defers = ds
section
variable {φ : Nat → Nat × Nat} {S : Nat → Prop} {w w0 : World} {P : Program} {a : Act} {o : Oper} {sh : Nat → Bool} {nt : Nat} {ds : List Deferred} {s : St}
theorem Std.put (hd : Std P w0 nt ds φ S s a w) {φ' : Nat → Nat × Nat} {S' : Nat → Prop} {h' : Hp} {nx' : Nat} {w' : World} {dst : Option Nat} {v : V} {x : Value} (hR : Rel P w0 φ' S' h' w') (he : Ext φ s.h S w φ' h' S' w')
    (hv : Rep φ' h' S' w' v x) (hdst : dst.all (fun d => decide (d < nt)) = true) (hfr : ∀ id, nx' ≤ id → h' id = none) : Std P w0 nt ds φ' S' ⟨put s.t dst v, h', nx'⟩ (a.put dst x) w' := by
  refine ⟨hR, ?_, by rw [put_size]; exact hd.size, hfr, by rw [put_defers']; exact hd.ds⟩
  refine rep_put (fun n => (hd.tm n).ext he) (fun n hn => ?_) hv
  subst hn
  rw [hd.size]
  simpa using hdst
theorem evs_rep {xs : List Operand} {ys : List X} (ht : ∀ n, Rep φ s.h S w (s.t n) (a.tmps.getD n undef)) (hc : compXs xs = some ys) : Reps φ s.h S w (ys.map (X.ev s.t)) (xs.map a.eval).toArray := by
  obtain ⟨g1, g2⟩ := mapM_at hc
  refine ⟨by simp [g1], fun i c v hi hv => ?_⟩
  rw [List.getElem?_map, Option.map_eq_some_iff] at hi
  obtain ⟨y, hy, rfl⟩ := hi
  rw [List.getElem?_toArray, List.getElem?_map, Option.map_eq_some_iff] at hv
  obtain ⟨z, hz, rfl⟩ := hv
  exact evRep ht (g2 i z y hz hy)
theorem wp_of_calls {f : Nat} {args : Array Value} {w' : World} {R : Ending → World → Prop} {K : Act → World → Prop} {Q : Exit → Act → World → Prop} (hrun : (execOp a.eval o).run P w = .ok (.enter f args) w')
    (h : Calls P f args w' R) (hr : ∀ e w'', R e w'' → ∃ x, e = .returned x ∧ K (a.put o.dst x) w'') : o.wp P a w K Q := by
  unfold Oper.wp
  rw [hrun]
  show Calls _ _ _ _ _
  refine h.mono fun e w'' he => ?_
  obtain ⟨x, rfl, hk⟩ := hr e w'' he
  exact hk
/-- The operation is a call of that function, with these operands. -/
structure IsCall (P : Program) (op : Op) (cal : Operand) (args : Array Operand) (xs : List X) : Prop where
  op : ∃ ts, op = .call { callee := .value cal, args := args, argTypes := ts }
  xs : compXs args.toList = some xs
theorem call_inv {c : Cop} {op : Op} {f : Nat} {xs : List X} (hc : compOp P sh op = some c) (h : c = .call f xs ∨ c = .shr f xs ∨ c = .shq f xs) :
    ∃ args, IsCall P op (.func f) args xs ∧ ∃ fn, P.funcs[f]? = some fn ∧ fn.body.isSome = true ∧ fn.name ≠ "runtime.NumGoroutine" := by
  have no : ∀ {g : X → Cop} {y : Operand}, comp1 P g y = some c → (∀ y, g y ≠ .call f xs ∧ g y ≠ .shr f xs ∧ g y ≠ .shq f xs) → False := by
    intro g y e hg
    obtain ⟨z, _, rfl⟩ := comp1_eq e
    rcases h with h | h | h
    · exact (hg z).1 h
    · exact (hg z).2.1 h
    · exact (hg z).2.2 h
  have no2 : ∀ {g : X → X → Cop} {y z : Operand}, comp2 P g y z = some c → (∀ y z, g y z ≠ .call f xs ∧ g y z ≠ .shr f xs ∧ g y z ≠ .shq f xs) → False := by
    intro g y z e hg
    obtain ⟨u, v, _, _, rfl⟩ := comp2_eq e
    rcases h with h | h | h
    · exact (hg u v).1 h
    · exact (hg u v).2.1 h
    · exact (hg u v).2.2 h
  unfold compOp at hc
  split at hc
  all_goals (try unfold compBin at hc)
  all_goals (try (repeat' split at hc))
  all_goals first
    | (cases hc; done)
    | exact (no hc (fun y => ⟨by simp, by simp, by simp⟩)).elim
    | exact (no2 hc (fun y z => ⟨by simp, by simp, by simp⟩)).elim
    | (injection hc with hc; subst hc; rcases h with h | h | h <;> cases h; done)
    | (rw [Option.map_eq_some_iff] at hc; obtain ⟨_, _, rfl⟩ := hc; rcases h with h | h | h <;> cases h; done)
    | (obtain ⟨sz, _, hc⟩ := Option.bind_eq_some_iff.1 hc; exact (no hc (fun y => ⟨by simp, by simp, by simp⟩)).elim)
    | skip
  · rename_i c0 _ _ b hb
    unfold compBuiltin at hc
    split at hc
    all_goals (try (repeat' split at hc))
    all_goals first
      | (cases hc; done)
      | exact (no hc (fun y => ⟨by simp, by simp, by simp⟩)).elim
      | exact (no2 hc (fun y z => ⟨by simp, by simp, by simp⟩)).elim
  · rename_i c0 _ _ f0 xs0 e1 e2 _ fn e3 e4 _ _
    injection hc with hc
    subst hc
    rcases h with h | h | h <;> cases h
    obtain ⟨cl, ar, ts⟩ := c0
    simp only at e1 e2
    subst e1
    exact ⟨ar, ⟨⟨ts, rfl⟩, e2⟩, fn, e3, e4⟩
  · rename_i c0 _ _ f0 xs0 e1 e2 _ fn e3 e4 _ _
    injection hc with hc
    subst hc
    rcases h with h | h | h <;> cases h
    obtain ⟨cl, ar, ts⟩ := c0
    simp only at e1 e2
    subst e1
    exact ⟨ar, ⟨⟨ts, rfl⟩, e2⟩, fn, e3, e4⟩
  · rename_i c0 _ _ f0 xs0 e1 e2 _ fn e3 e4 _
    injection hc with hc
    subst hc
    rcases h with h | h | h <;> cases h
    obtain ⟨cl, ar, ts⟩ := c0
    simp only at e1 e2
    subst e1
    exact ⟨ar, ⟨⟨ts, rfl⟩, e2⟩, fn, e3, e4⟩
theorem calv_inv {op : Op} {x : X} {xs : List X} (hc : compOp P sh op = some (.calv x xs)) : ∃ t args, x = .t t ∧ IsCall P op (.tmp t) args xs := by
  have no : ∀ {g : X → Cop} {y : Operand}, comp1 P g y = some (.calv x xs) → (∀ y, g y ≠ .calv x xs) → False := by
    intro g y e hg
    obtain ⟨z, _, h⟩ := comp1_eq e
    exact hg z h.symm
  have no2 : ∀ {g : X → X → Cop} {y z : Operand}, comp2 P g y z = some (.calv x xs) → (∀ y z, g y z ≠ .calv x xs) → False := by
    intro g y z e hg
    obtain ⟨u, v, _, _, h⟩ := comp2_eq e
    exact hg u v h.symm
  unfold compOp at hc
  split at hc
  all_goals (try unfold compBin at hc)
  all_goals (try (repeat' split at hc))
  all_goals first
    | (cases hc; done)
    | exact (no hc (fun y => by simp)).elim
    | exact (no2 hc (fun y z => by simp)).elim
    | (rw [Option.map_eq_some_iff] at hc; obtain ⟨_, _, h⟩ := hc; cases h; done)
    | (obtain ⟨sz, _, hc⟩ := Option.bind_eq_some_iff.1 hc; exact (no hc (fun y => by simp)).elim)
    | skip
  · rename_i c0 _ _ b hb
    unfold compBuiltin at hc
    split at hc
    all_goals (try (repeat' split at hc))
    all_goals first
      | (cases hc; done)
      | exact (no hc (fun y => by simp)).elim
      | exact (no2 hc (fun y z => by simp)).elim
  · rename_i c0 _ _ t0 xs0 e1 e2
    injection hc with hc
    cases hc
    obtain ⟨cl, ar, ts⟩ := c0
    simp only at e1 e2
    subst e1
    exact ⟨t0, ar, rfl, ⟨ts, rfl⟩, e2⟩
theorem run_call {f : Nat} {fn : Func} {args : Array Operand} {ts : Array TypeId} (hop : o.op = .call { callee := .value (.func f), args := args, argTypes := ts }) (h1 : P.funcs[f]? = some fn) (h2 : fn.body.isSome = true) (h3 : fn.name ≠ "runtime.NumGoroutine") :
    (execOp a.eval o).run P w = .ok (.enter f (args.map a.eval)) w := by
  have h3' : (fn.name == "runtime.NumGoroutine") = false := by simpa using h3
  have h2' : fn.body ≠ none := by cases hb : fn.body <;> simp_all
  simp [execOp, hop, resolve, Act.eval, Deferred.ofValue, invoke, callFunc, h1, h3, h2']
theorem run_calv {f t0 : Nat} {fn : Func} {args : Array Operand} {ts : Array TypeId} {caps : Array Value} (hop : o.op = .call { callee := .value (.tmp t0), args := args, argTypes := ts }) (hv : a.eval (.tmp t0) = .func (.func f) #[] caps) (h1 : P.funcs[f]? = some fn) (h2 : fn.body.isSome = true) (h3 : fn.name ≠ "runtime.NumGoroutine") :
    (execOp a.eval o).run P w = .ok (.enter f (args.map a.eval ++ caps)) w := by
  have h3' : (fn.name == "runtime.NumGoroutine") = false := by simpa using h3
  have h2' : fn.body ≠ none := by cases hb : fn.body <;> simp_all
  simp [execOp, hop, resolve, hv, Deferred.ofValue, invoke, callFunc, h1, h3, h2']
/-- One operation, in the sequence. -/
theorem step_wp {c : Cop} {K : V → Hp → Nat → Option (List Nat) → Option (List Nat) → Prop} {next : Act → World → Prop} {Q : Exit → Act → World → Prop} (hd : Std P w0 nt ds φ S s a w) (hc : IsOp P sh o.op c) (hs : stepI P c s K)
    (hk : ∀ v h' nx' rd wr φ' S' x w', K v h' nx' rd wr → Rel P w0 φ' S' h' w' → Ext φ s.h S w φ' h' S' w' → (∀ b, S' b → b < w0.heap.size → S b) → Rep φ' h' S' w' v x → (∀ id, nx' ≤ id → h' id = none) → next (a.put o.dst x) w') : o.wp P a w next Q := by
  have gen : ∀ r, opA c (X.ev s.t) s.h s.nx = some r → K r.v r.h r.nx r.rd r.wr → o.wp P a w next Q := by
    intro r hr hK
    obtain ⟨f1, f2⟩ := opA_fresh hd.fresh hr
    obtain ⟨x, w', φ', S', hrun, hR, he, hsub, hv⟩ := opSound' hd.rel hd.tm hc hr (fun id h1 _ => hd.fresh id h1)
    have := hk _ _ _ _ _ φ' S' x w' hK hR he hsub hv f2
    unfold Oper.wp
    rcases hrun with hrun | ⟨hrun, hx⟩
    · rw [hrun]; exact this
    · rw [hrun]; subst hx; exact this
  cases c
  case call f xs =>
    obtain ⟨as, r, h1, h2, h3, h4⟩ := hs
    obtain ⟨args, ⟨⟨ts, hop⟩, hcx⟩, fn, hf1, hf2, hf3⟩ := call_inv (hc.comp (by intro _ _ _ _ q; cases q)) (.inl rfl)
    have hreps := evs_rep hd.tm hcx
    have hmap : (args.toList.map a.eval).toArray = args.map a.eval := by rw [← Array.toList_map, Array.toArray_toList]
    rw [hmap] at hreps
    refine wp_of_calls (run_call hop hf1 hf2 hf3) (calls_pure hd.rel (fun id h1 _ => hd.fresh id h1) hreps h1 h2 h3) fun e w'' he => ?_
    obtain ⟨x, φ', S', rfl, q1, q2, q3, q4⟩ := he
    refine ⟨x, rfl, hk _ _ _ _ _ φ' S' x w'' h4 q1 q2 (fun b hb hlt => q3 b hb (Nat.lt_of_lt_of_le hlt hd.rel.base)) q4 fun id hid => ?_⟩
    rw [addB_get, if_neg (by omega)]
    exact hd.fresh id (by omega)
  case shr f xs =>
    obtain ⟨v, h', nx', s3, hK⟩ := hs
    obtain ⟨args, ⟨⟨ts, hop⟩, hcx⟩, fn, hf1, hf2, hf3⟩ := call_inv (hc.comp (by intro _ _ _ _ q; cases q)) (.inr (.inl rfl))
    have hreps := evs_rep hd.tm hcx
    have hmap : (args.toList.map a.eval).toArray = args.map a.eval := by rw [← Array.toList_map, Array.toArray_toList]
    rw [hmap] at hreps
    refine wp_of_calls (run_call hop hf1 hf2 hf3) (s3 w0 w φ S _ hd.fresh hd.rel hreps) fun e w'' he => ?_
    obtain ⟨x, φ', S', rfl, q1, q2, q3, s2, q4⟩ := he
    exact ⟨x, rfl, hk _ _ _ _ _ φ' S' x w'' hK q1 q2 q3 q4 s2⟩
  case shq f xs =>
    obtain ⟨v, s3, hK⟩ := hs
    obtain ⟨args, ⟨⟨ts, hop⟩, hcx⟩, fn, hf1, hf2, hf3⟩ := call_inv (hc.comp (by intro _ _ _ _ q; cases q)) (.inr (.inr rfl))
    have hreps := evs_rep hd.tm hcx
    have hmap : (args.toList.map a.eval).toArray = args.map a.eval := by rw [← Array.toList_map, Array.toArray_toList]
    rw [hmap] at hreps
    refine wp_of_calls (run_call hop hf1 hf2 hf3) (s3 w0 w φ S _ hd.fresh hd.rel hreps) fun e w'' he => ?_
    obtain ⟨x, φ', S', rfl, q1, q2, q3, s2, q4⟩ := he
    exact ⟨x, rfl, hk _ _ _ _ _ φ' S' x w'' hK q1 q2 q3 q4 s2⟩
  case calv x xs =>
    obtain ⟨t0, args, rfl, ⟨ts, hop⟩, hcx⟩ := calv_inv (hc.comp (by intro _ _ _ _ q; cases q))
    simp only [stepI] at hs
    split at hs
    · rename_i f caps hfn
      obtain ⟨v, h', nx', s3, hf, hK⟩ := hs
      obtain ⟨fn, hf1, hf2, hf3⟩ := hf
      have hreps := evs_rep hd.tm hcx
      have hmap : (args.toList.map a.eval).toArray = args.map a.eval := by rw [← Array.toList_map, Array.toArray_toList]
      rw [hmap] at hreps
      have rt := hd.tm t0
      simp only [X.ev] at hfn
      rw [hfn] at rt
      generalize hvt : a.tmps.getD t0 undef = vt at rt
      cases rt
      rename_i cv k1 k2
      have hev : a.eval (.tmp t0) = .func (.func f) #[] cv := hvt
      refine wp_of_calls (run_calv hop hev hf1 hf2 hf3) (s3 w0 w φ S _ hd.fresh hd.rel ⟨by simp [hreps.1, k1], fun i c y hc hy => ?_⟩) fun e w'' he => ?_
      · have hl := hreps.1
        by_cases hi : i < (args.map a.eval).size
        · rw [Array.getElem?_append_left hi] at hy
          rw [List.getElem?_append_left (by omega)] at hc
          exact hreps.2 i c y hc hy
        · rw [Array.getElem?_append_right (by omega)] at hy
          rw [List.getElem?_append_right (by omega), ← hl] at hc
          exact k2 _ c y hc hy
      · obtain ⟨x, φ', S', rfl, q1, q2, q3, s2, q4⟩ := he
        exact ⟨x, rfl, hk _ _ _ _ _ φ' S' x w'' hK q1 q2 q3 q4 s2⟩
    · cases hs
  all_goals
    simp only [stepI] at hs
    split at hs
    · exact gen _ (by assumption) hs
    · cases hs
/-- An instruction and the operation that it comes of. -/
theorem compIns_inv {ops : Array Oper} {cf : List Nat} {i : Ins} (e : compIns P sh nt ops cf o = some i) : (IsOp P sh o.op i.op ∨ i.op = .never) ∧ i.dst = o.dst ∧ i.cf = cf ∧ o.dst.all (fun d => decide (d < nt)) = true ∧
    i.g = o.guard.bind (fun (j, b) => ((ops[j]?).bind (·.dst)).map fun d => (d, b)) ∧ (o.guard.isSome = true → i.g.isSome = true) ∧ ∀ d b, i.g = some (d, b) → d < nt := by
  have hc : ∀ {c : Cop}, insOp P sh ops o = c → IsOp P sh o.op c ∨ c = .never := by
    intro c h
    unfold insOp at h
    split at h
    · rename_i d hd
      subst h
      split at hd
      · exact .inl (.inr hd)
      · cases hd
    · cases hq : compOp P sh o.op with
      | none => rw [hq] at h; exact .inr h.symm
      | some d => rw [hq] at h; simp at h; exact .inl (.inl (by rw [hq, h]))
  unfold compIns at e
  split at e
  · rename_i hd
    split at e
    · rename_i hg
      injection e with e
      subst e
      exact ⟨hc rfl, rfl, rfl, hd, by simp [hg], by simp [hg], fun d b h => by cases h⟩
    · rename_i j b hg
      split at e
      · rename_i d hjd
        split at e
        · rename_i hlt
          injection e with e
          subst e
          exact ⟨hc rfl, rfl, rfl, hd, by rw [hg]; simp only [Option.bind_some]; rw [hjd]; rfl, by simp, fun d' b' h => by injection h with h; cases h; exact hlt⟩
        · cases e
      · cases e
  · cases e
theorem compSeq_at {ops : Array Oper} : ∀ {l : List Oper} {m : List Ins}, compSeq P sh nt ops l = some m → l.length = m.length ∧ ∀ (j : Nat) o i, l[j]? = some o → m[j]? = some i → compIns P sh nt ops [] o = some i
  | [], m, e => by simp [compSeq] at e; subst e; exact ⟨rfl, fun j o i h => by simp at h⟩
  | x :: l, m, e => by
    unfold compSeq at e
    split at e
    · rename_i i m' h1 h2
      injection e with e
      subst e
      obtain ⟨g1, g2⟩ := compSeq_at h2
      refine ⟨by simp [g1], fun j o k ho hk => ?_⟩
      cases j with
      | zero => simp at ho hk; subst ho; subst hk; exact h1
      | succ j => exact g2 j o k (by simpa using ho) (by simpa using hk)
    · cases e
/-- A region in the order of the text. -/
theorem seq_wp {ops : Array Oper} {Q : Exit → Act → World → Prop} {φ0 : Nat → Nat × Nat} {S0 : Nat → Prop} {h0 : Hp} {wb : World} (cl : Nat → Ins → Prop) (l : List Ins) (hcl : ∀ (j : Nat) i, l[j]? = some i → ∃ o, ops[j]? = some o ∧ compIns P sh nt ops [] o = some { i with cf := [] }) {K : St → Prop} (hn : l.length = ops.size)
    (hK : ∀ s' φ' S' a' w', K s' → Std P w0 nt ds φ' S' s' a' w' → Ext φ0 h0 S0 wb φ' s'.h S' w' → (∀ b, S' b → b < w0.heap.size → S0 b) → Q .normal a' w') :
    ∀ (k j : Nat) (s : St) (φ : Nat → Nat × Nat) (S : Nat → Prop) (a : Act) (w : World), j + k = l.length → Std P w0 nt ds φ S s a w → Ext φ0 h0 S0 wb φ s.h S w → (∀ b, S b → b < w0.heap.size → S0 b) → runN P (l.drop j) s K → wpOps P ops Q ((List.range ops.size).drop j) a w
  | 0, j, s, φ, S, a, w, hj, hd, he, hs, hr => by
    have h1 : l.drop j = [] := List.drop_eq_nil_of_le (by omega)
    have h2 : (List.range ops.size).drop j = [] := List.drop_eq_nil_of_le (by simp; omega)
    rw [h1] at hr
    rw [h2]
    exact hK s φ S a w hr hd he hs
  | k + 1, j, s, φ, S, a, w, hj, hd, he, hs, hr => by
    have hjl : j < l.length := by omega
    obtain ⟨o, ho, hci⟩ := hcl j l[j] (List.getElem?_eq_getElem hjl)
    obtain ⟨c1, c2, c3, c4, c5, c6, c7⟩ := compIns_inv hci
    simp only at c1 c2 c5 c6 c7
    rw [List.drop_eq_getElem_cons hjl] at hr
    have hro : (List.range ops.size).drop j = j :: (List.range ops.size).drop (j + 1) := by
      rw [List.drop_eq_getElem_cons (by simp; omega)]
      simp
    rw [hro]
    unfold runN at hr
    simp only [wpOps, ho]
    cases hw : want s.t l[j].g with
    | none => rw [hw] at hr; exact hr.elim
    | some b =>
      have hwd := wanted_eq (b := b) hd.tm rfl c5 c6 (fun d b h => by rw [hd.size]; exact c7 d b h) hw
      rw [hw] at hr
      cases b with
      | true =>
        rw [if_pos hwd]
        simp only at hr
        rcases c1 with c1 | c1
        case inr => rw [c1] at hr; exact hr.elim
        refine .inl (step_wp hd c1 hr fun v h' nx' rd wr φ' S' x w' hkk q1 q2 q3 q4 q5 => ?_)
        rw [← c2]
        exact seq_wp cl l hcl hn hK k (j + 1) _ φ' S' _ w' (by omega) (hd.put q1 q2 q4 (by rw [c2]; exact c4) q5) (he.trans q2) (fun b hb hlt => hs b (q3 b hb hlt) hlt) hkk
      | false =>
        rw [if_neg (by rw [hwd]; exact Bool.false_ne_true)]
        simp only at hr
        rw [← c2]
        exact seq_wp cl l hcl hn hK k (j + 1) _ φ S _ w (by omega) (hd.put hd.rel .refl undef_rep (by rw [c2]; exact c4) hd.fresh) he hs hr
end
end Go.Ex
