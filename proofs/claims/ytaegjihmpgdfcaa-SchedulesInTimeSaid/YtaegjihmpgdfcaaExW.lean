/- Functions whose results lie in cells of their own (structs). -/
import Derived.Test.YtaegjihmpgdfcaaExV
set_option linter.unusedVariables false
set_option linter.unusedSimpArgs false
namespace Go.Ex
open Go.RowKit
variable {P : Program} {sh : Nat → Bool}
/-- Where a result lies. -/
inductive Rv where
  | tmp (n : Nat)
  | cell (n : Nat) (sz : Option Nat)
def resG (P : Program) (fn : Func) : Option (List Rv) := fn.results.toList.mapM fun
  | .tmp t => some (.tmp t)
  | .cell a t => (ldT P t).map (Rv.cell a)
/-- One result. -/
def rvV (t : Nat → V) (h : Hp) : Rv → Option V
  | .tmp n => some (t n)
  | .cell n sz => ldA h (t n) sz
def rvL (t : Nat → V) (h : Hp) : List Rv → Option (List V)
  | [] => some []
  | r :: l => match rvV t h r, rvL t h l with
    | some v, some vs => some (v :: vs)
    | _, _ => none
def tupV (vs : List V) : V := match vs with
  | [v] => v
  | vs => .tup vs
def resW (rs : List Rv) (t : Nat → V) (h : Hp) : Option V := (rvL t h rs).map tupV
def compG (P : Program) (sh : Nat → Bool) (f : Nat) : Option (Cmd × List Rv × Nat) :=
  match P.funcs[f]? with
  | some fn => match fn.body with
    | some c => match compC P sh fn.ntmps c, resG P fn with
      | some C, some rs => some (C, rs, fn.ntmps)
      | _, _ => none
    | none => none
  | none => none
def resSem (tmps : Array Value) (r : ResultVar) : Sem Value := match r with | .tmp t => pure (tmps.getD t undef) | .cell a t => do loadVar t (← asAddr (tmps.getD a undef))
theorem rv_rep {w w0 : World} {φ : Nat → Nat × Nat} {h : Hp} {S : Nat → Prop} {t : Nat → V} {tmps : Array Value} (hR : Rel P w0 φ S h w) (ht : ∀ n, Rep φ h S w (t n) (tmps.getD n undef)) {a : Nat} {ty : TypeId} {sz : Option Nat} (hs : ldT P ty = some sz) {v : V}
    (e : ldA h (t a) sz = some v) : ∃ x, (resSem tmps (.cell a ty)).run P w = .ok x w ∧ Rep φ h S w v x := by
  have rx := ht a
  simp only [resSem]
  generalize tmps.getD a undef = vx at rx
  unfold ldA at e
  split at e
  · rename_i cs off hv
    obtain ⟨p, q, arr, el, fz, rfl, z1, z2, z3⟩ := view_rep hR rx hv
    rcases ldT_cases hs with ⟨rfl, h1, h2⟩ | ⟨n, rfl, h1, h2⟩
    · simp only at e
      have hi := (List.getElem?_eq_some_iff.1 e).1
      have hu : arr[q + off]? = some arr[q + off] := Array.getElem?_eq_getElem (by omega)
      refine ⟨arr[q + off], ?_, (z3 off v _ e hu).1⟩
      simp [asAddr, loadVar, run_isAgg' h1, cell_at z1, hu]
    · simp only at e
      split at e
      · rename_i hle
        injection e with e
        subst e
        refine ⟨.agg (arr.extract (q + off) (q + off + n)), ?_, ?_⟩
        · simp only [asAddr]
          simp only [Sem.run_bind, Sem.run_pure, Result.andThen_ok]
          rw [run_loadAgg z1 (by omega) h1 h2]
        · refine .agg _ _ (by simp; omega) (fun i v hv => ?_) (fun i c v hc hv => ?_)
          · rw [Array.getElem?_extract] at hv
            split at hv
            · have hi : off + i < cs.length := by omega
              rw [Nat.add_assoc] at hv
              exact (z3 (off + i) _ v (List.getElem?_eq_getElem hi) hv).2
            · cases hv
          · rw [Array.getElem?_extract] at hv
            split at hv
            · rw [List.getElem?_take] at hc
              split at hc
              · rw [List.getElem?_drop] at hc
                rw [Nat.add_assoc] at hv
                exact (z3 (off + i) c v hc hv).1
              · cases hc
            · cases hv
      · cases e
  · cases e
theorem resultsG_rep {fn : Func} {rs : List Rv} {φ : Nat → Nat × Nat} {h : Hp} {S : Nat → Prop} {w w0 : World} {t : Nat → V} {tmps : Array Value} (hR : Rel P w0 φ S h w) (hr : resG P fn = some rs) (ht : ∀ n, Rep φ h S w (t n) (tmps.getD n undef)) {val : V} (hv : resW rs t h = some val) :
    ∃ v, (results fn tmps).run P w = .ok v w ∧ Rep φ h S w val v := by
  have key : ∀ (l : List ResultVar) (rs : List Rv) (vs : List V), (l.mapM fun | .tmp t => some (.tmp t) | .cell a t => (ldT P t).map (Rv.cell a)) = some rs → rvL t h rs = some vs →
      ∃ xs : List Value, (l.mapM (resSem tmps)).run P w = .ok xs w ∧ xs.length = vs.length ∧ ∀ (i : Nat) c v, vs[i]? = some c → xs[i]? = some v → Rep φ h S w c v := by
    intro l
    induction l with
    | nil => intro rs vs e1 e2; simp at e1; subst e1; simp [rvL] at e2; subst e2; exact ⟨[], rfl, rfl, fun i c v hc => by simp at hc⟩
    | cons r l ih =>
      intro rs vs e1 e2
      rw [List.mapM_cons] at e1
      simp only [Option.bind_eq_bind, Option.bind_eq_some_iff, Option.pure_def, Option.some.injEq] at e1
      obtain ⟨r', h1, rs', h2, rfl⟩ := e1
      unfold rvL at e2
      split at e2
      · rename_i v vs' hv1 hv2
        injection e2 with e2
        subst e2
        obtain ⟨xs, g1, g2, g3⟩ := ih rs' vs' h2 hv2
        have one : ∃ x, (resSem tmps r).run P w = .ok x w ∧ Rep φ h S w v x := by
          cases r with
          | tmp n =>
            simp only [Option.some.injEq] at h1
            subst h1
            simp only [rvV, Option.some.injEq] at hv1
            subst hv1
            exact ⟨_, rfl, ht n⟩
          | cell a ty =>
            simp only [Option.map_eq_some_iff] at h1
            obtain ⟨sz, hs, rfl⟩ := h1
            exact rv_rep hR ht hs hv1
        obtain ⟨x, k1, k2⟩ := one
        refine ⟨x :: xs, ?_, by simp [g2], fun i c u hc hu => ?_⟩
        · rw [List.mapM_cons]
          simp only [Sem.run_bind, k1, Sem.run_pure, Result.andThen_ok, g1]
        · cases i with
          | zero => simp at hc hu; subst hc; subst hu; exact k2
          | succ i => exact g3 i c u (by simpa using hc) (by simpa using hu)
      · cases e2
  unfold resW at hv
  rw [Option.map_eq_some_iff] at hv
  obtain ⟨vs, hvs, rfl⟩ := hv
  obtain ⟨xs, g1, g2, g3⟩ := key fn.results.toList rs vs hr hvs
  have hrun : (results fn tmps).run P w = .ok (let vs := xs.toArray; if h : vs.size = 1 then vs[0] else .tuple vs) w := by
    unfold results
    rw [Sem.run_bind, Array.mapM_eq_mapM_toList, Sem.run_map]
    exact congrArg (fun r : Result (List Value) => (r.andThen fun a w' => Result.ok a.toArray w').andThen fun a w' => Sem.run P (pure (if h : a.size = 1 then a[0] else .tuple a)) w') g1
  refine ⟨_, hrun, ?_⟩
  simp only
  split
  · rename_i h1
    match xs, h1, vs, g2, g3 with
    | [x], _, [v], _, g3 => simpa [tupV] using g3 0 v x rfl rfl
  · rename_i h1
    have : tupV vs = .tup vs := by
      unfold tupV
      split
      · simp at g2; simp at h1; omega
      · rfl
    rw [this]
    refine .tup _ _ (by simp [g2]) fun i c v hc hv => ?_
    rw [List.getElem?_toArray] at hv
    exact g3 i c v hc hv
theorem calls_ofG (hm : P.follows .mixedOrders = true) {f : Nat} {C : Cmd} {rs : List Rv} {nt : Nat} (hf : compG P sh f = some (C, rs, nt)) {args : List V} (nt0 : args.length ≤ nt) {w0 w : World} {φ : Nat → Nat × Nat} {S : Nat → Prop} {h : Hp} {nx : Nat} {vs : Array Value}
    (hR : Rel P w0 φ S h w) (hfr : ∀ id, nx ≤ id → h id = none) (hv : Reps φ h S w args vs) {Q : V → St → Prop} (hw : wpA P C (fun e s => match e with | .exit _ => False | _ => ∃ v, resW rs s.t s.h = some v ∧ Q v s) ⟨initT args, h, nx⟩) {R : Ending → World → Prop}
    (hQ : ∀ s φ' S' w' u v, Q u s → Rel P w0 φ' S' s.h w' → Ext φ h S w φ' s.h S' w' → (∀ b, S' b → b < w0.heap.size → S b) → (∀ id, s.nx ≤ id → s.h id = none) → Rep φ' s.h S' w' u v → R (.returned v) w') : Calls P f vs w R := by
  unfold compG at hf
  split at hf
  · rename_i fn hfn
    split at hf
    · rename_i c hc
      split at hf
      · rename_i C' rs' hC hts
        injection hf with hf
        cases hf
        refine calls_of_wp hfn hc ?_
        have hs := hv.1
        have hn := nt0
        let fr : From := ⟨w0, fn.ntmps, [], φ, h, S, w⟩
        refine wp_mono (wpA_sound hm (f := fr) c C _ ⟨initT args, h, nx⟩ _ w hC hw ⟨φ, S, ⟨hR, fun n => ?_, ?_, hfr, rfl⟩, .refl, fun _ x _ => x⟩) fun e a' w' ⟨E, s', φ', S', q1, q2, q3, q4, q5⟩ => ?_
        · simp only [initT]
          by_cases h1 : n < args.length
          · have h2 : n < vs.size := by omega
            have := hv.2 n args[n] vs[n] (List.getElem?_eq_getElem h1) (Array.getElem?_eq_getElem h2)
            rw [List.getD_eq_getElem?_getD, List.getElem?_eq_getElem h1]
            simp only [Option.getD_some]
            rw [Array.getD_eq_getD_getElem?, Array.getElem?_append_left h2, Array.getElem?_eq_getElem h2]
            exact this
          · rw [List.getD_eq_getElem?_getD, List.getElem?_eq_none (by omega)]
            rw [Array.getD_eq_getD_getElem?, Array.getElem?_append_right (by omega)]
            simp only [Option.getD_none]
            rw [Array.getElem?_replicate]
            split <;> exact undef_rep
        · show _ = fn.ntmps
          simp; omega
        · have fin : ∀ u, resW rs s'.t s'.h = some u → Q u s' → ∃ v, (results fn a'.tmps).run P w' = .ok v w' ∧ R (.returned v) w' := fun u hu hq => by
            obtain ⟨v, hrun, hrv⟩ := resultsG_rep (P := P) q3.rel hts q3.tm hu
            exact ⟨v, hrun, hQ s' φ' S' w' u v hq q3.rel q4 q5 q3.fresh hrv⟩
          cases E with
          | norm =>
            subst q1
            obtain ⟨u, hu, hq⟩ := q2
            obtain ⟨v, z1, z2⟩ := fin u hu hq
            exact ⟨q3.ds, v, z1, z2⟩
          | ret =>
            subst q1
            obtain ⟨u, hu, hq⟩ := q2
            obtain ⟨v, z1, z2⟩ := fin u hu hq
            exact ⟨q3.ds, v, z1, z2⟩
          | exit id => exact q2.elim
      · cases hf
    · cases hf
  · cases hf
/-- With blocks of its own among the results. -/
theorem OkF.ofG (hm : P.follows .mixedOrders = true) {f : Nat} {C : Cmd} {rs : List Rv} {nt : Nat} (hf : compG P sh f = some (C, rs, nt)) {args : List V} (nt0 : args.length ≤ nt) {r : V × List LB}
    (hw : W P C (fun e s => endK e (∃ v, resW rs s.t s.h = some v ∧ ∃ own : List Nat, own.Nodup ∧ expV s.h own v = some r.1 ∧ own.mapM (expB s.h own) = some r.2)) ⟨initT args, none0, 0⟩ ⟨⟩ ⟨⟩)
    (hpb : ∀ b ∈ r.2, V.pureL b.cells = true ∧ b.mp = none) : OkF P f args r := by
  refine ⟨hpb, fun w S φ0 vs hG hS hv => ?_⟩
  have hR0 : Rel P w φ0 S none0 w := ⟨Below.refl _ _, hG, hS, fun id b hb => (by cases hb), fun i j b c hi => (by cases hi)⟩
  refine calls_ofG hm hf nt0 hR0 (fun _ _ => rfl) hv (Q := fun v s => ∃ own : List Nat, own.Nodup ∧ expV s.h own v = some r.1 ∧ own.mapM (expB s.h own) = some r.2) (wpA_mono C (fun e s h => by cases e <;> exact h) hw) ?_
  rintro s φ' S' w' u x ⟨own, hnd, hexp, hblk⟩ hR hext hsub _ hrep
  exact exp_out hR hext hsub hrep hnd hexp hblk
/-- All of whose results only read. -/
theorem OkF.G0 (hm : P.follows .mixedOrders = true) {f : Nat} {C : Cmd} {rs : List Rv} {nt : Nat} (hf : compG P sh f = some (C, rs, nt)) {args : List V} (nt0 : args.length ≤ nt) {v : V}
    (hw : W P C (fun e s => endK e (∃ u, resW rs s.t s.h = some u ∧ expV s.h [] u = some v)) ⟨initT args, none0, 0⟩ ⟨⟩ ⟨⟩) : OkF P f args (v, []) := by
  refine OkF.ofG hm hf nt0 (wpA_mono C (fun e s h => ?_) hw) (fun b hb => by cases hb)
  cases e with
  | exit i => exact h
  | _ => obtain ⟨u, h1, h2⟩ := h; exact ⟨u, h1, [], .nil, h2, rfl⟩
theorem OkF.exG0 (hm : P.follows .mixedOrders = true) {f : Nat} {C : Cmd} {rs : List Rv} {nt : Nat} (hf : compG P sh f = some (C, rs, nt)) {args : List V} (nt0 : args.length ≤ nt) {Q : V → Prop}
    (hw : W P C (fun e s => endK e (∃ u, resW rs s.t s.h = some u ∧ ∃ v, expV s.h [] u = some v ∧ Q v)) ⟨initT args, none0, 0⟩ ⟨⟩ ⟨⟩) : ∃ v, Q v ∧ OkF P f args (v, []) := by
  obtain ⟨e, s', h1, h2⟩ := wpA_det C hw
  have h1' : ∃ u, resW rs s'.t s'.h = some u ∧ ∃ v, expV s'.h [] u = some v ∧ Q v := by cases e <;> first | exact h1 | exact h1.elim
  obtain ⟨u, hu, v, hv, hq⟩ := h1'
  refine ⟨v, hq, OkF.G0 hm hf nt0 (wpA_mono C (fun a b hab => ?_) h2)⟩
  obtain ⟨rfl, rfl⟩ := hab
  cases a <;> first | exact ⟨u, hu, hv⟩ | exact h1.elim
theorem SEx.ofG (hm : P.follows .mixedOrders = true) {f : Nat} {C : Cmd} {rs : List Rv} {nt : Nat} (hf : compG P sh f = some (C, rs, nt)) {args : List V} (nt0 : args.length ≤ nt) {h : Hp} {nx : Nat} {Q : V → Hp → Nat → Prop}
    (hw : W P C (fun e s => endK e (∃ u, resW rs s.t s.h = some u ∧ Q u s.h s.nx)) ⟨initT args, h, nx⟩ ⟨⟩ ⟨⟩) : SEx P f args h nx Q := by
  obtain ⟨e, s', h1, h2⟩ := wpA_det C hw
  have h1' : ∃ u, resW rs s'.t s'.h = some u ∧ Q u s'.h s'.nx := by cases e <;> first | exact h1 | exact h1.elim
  obtain ⟨u, hu, hq⟩ := h1'
  refine ⟨u, s'.h, s'.nx, hq, fun w0 w φ S vs hfr hR hv => ?_⟩
  refine calls_ofG hm hf nt0 hR hfr hv (Q := fun v s => v = u ∧ s.h = s'.h ∧ s.nx = s'.nx) (wpA_mono C (fun a b hab => ?_) h2) ?_
  · obtain ⟨rfl, rfl⟩ := hab
    cases a <;> first | exact ⟨u, hu, rfl, rfl, rfl⟩ | exact h1.elim
  · rintro s φ' S1 w' y x ⟨rfl, e1, e2⟩ g1 g2 g3 g4 g5
    rw [e1] at g1 g2 g4 g5
    rw [e2] at g4
    exact ⟨x, φ', S1, rfl, g1, g2, g3, g4, g5⟩
attribute [simp] resW rvL rvV tupV
end Go.Ex
