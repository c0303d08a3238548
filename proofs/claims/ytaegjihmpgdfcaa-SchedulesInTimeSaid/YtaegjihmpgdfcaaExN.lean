/- A region that draws its order: whatever the order, it comes to what the order of the text comes to. -/
import Derived.Test.YtaegjihmpgdfcaaExL
set_option linter.unusedVariables false
set_option linter.unusedSimpArgs false
namespace Go.Ex
open Go.RowKit
section Mrg
variable {α : Type} {n : Nat} {val : Nat → α} {wr tch : Nat → Prop} {bef : Nat → Nat → Prop}
/-- What a place holds where the operations of X have run: what the last one that wrote there left. -/
def Mrg (n : Nat) (val : Nat → α) (wr : Nat → Prop) (X : Nat → Prop) (x : α) : Prop :=
  (∀ i, i < n → X i → wr i → (∀ k, k < n → X k → wr k → k ≤ i) → x = val (i + 1)) ∧ ((∀ i, i < n → X i → ¬ wr i) → x = val 0)
theorem last_wr (hU : ∀ j, j < n → ¬ wr j → val (j + 1) = val j) : ∀ j, j ≤ n → ((∀ i, i < j → ¬ wr i) ∧ val j = val 0) ∨ ∃ m, m < j ∧ wr m ∧ (∀ k, k < j → wr k → k ≤ m) ∧ val j = val (m + 1)
  | 0, _ => .inl ⟨fun i hi => by omega, rfl⟩
  | j + 1, hj => by
    by_cases hw : wr j
    · exact .inr ⟨j, by omega, hw, fun k hk _ => by omega, rfl⟩
    · rcases last_wr hU j (by omega) with ⟨h1, h2⟩ | ⟨m, h1, h2, h3, h4⟩
      · refine .inl ⟨fun i hi => ?_, (hU j (by omega) hw).trans h2⟩
        rcases Nat.lt_or_ge i j with q | q
        · exact h1 i q
        · have : i = j := by omega
          rw [this]; exact hw
      · refine .inr ⟨m, by omega, h2, fun k hk hkw => ?_, (hU j (by omega) hw).trans h4⟩
        rcases Nat.lt_or_ge k j with q | q
        · exact h3 k q hkw
        · have : k = j := by omega
          rw [this] at hkw
          exact absurd hkw hw
theorem Mrg.at {X : Nat → Prop} {x : α} {j : Nat} (hU : ∀ j, j < n → ¬ wr j → val (j + 1) = val j) (hC : ∀ i j, i < n → j < n → wr i → tch j → (i < j → bef i j) ∧ (j < i → bef j i)) (hj : j < n) (ht : tch j)
    (hX : ¬ X j) (hr : ∀ k, bef k j → X k) (hcl : ∀ i, X i → bef j i → X j) (h : Mrg n val wr X x) : x = val j := by
  have wX : ∀ i, i < n → X i → wr i → i < j := by
    intro i hi hXi hw
    rcases Nat.lt_trichotomy i j with q | q | q
    · exact q
    · rw [q] at hXi; exact absurd hXi hX
    · exact absurd (hcl i hXi ((hC i j hi hj hw ht).2 q)) hX
  have Xw : ∀ i, i < j → wr i → X i := fun i hi hw => hr i ((hC i j (by omega) hj hw ht).1 hi)
  rcases last_wr hU j (by omega) with ⟨h1, h2⟩ | ⟨m, h1, h2, h3, h4⟩
  · rw [h2]
    exact h.2 fun i hi hXi hw => h1 i (wX i hi hXi hw) hw
  · rw [h4]
    exact h.1 m (by omega) (Xw m h1 h2) h2 fun k hk hXk hw => h3 k (wX k hk hXk hw) hw
theorem Mrg.step {X : Nat → Prop} {x x' : α} {j : Nat} (hC : ∀ i j, i < n → j < n → wr i → tch j → (i < j → bef i j) ∧ (j < i → bef j i)) (hsub : ∀ j, wr j → tch j) (hj : j < n)
    (hX : ¬ X j) (hcl : ∀ i, X i → bef j i → X j) (h : Mrg n val wr X x) (h1 : wr j → x' = val (j + 1)) (h2 : ¬ wr j → x' = x) : Mrg n val wr (fun i => X i ∨ i = j) x' := by
  by_cases hw : wr j
  · have wX : ∀ i, i < n → X i → wr i → i < j := by
      intro i hi hXi hwi
      rcases Nat.lt_trichotomy i j with q | q | q
      · exact q
      · rw [q] at hXi; exact absurd hXi hX
      · exact absurd (hcl i hXi ((hC i j hi hj hwi (hsub j hw)).2 q)) hX
    refine ⟨fun i hi hXi hwi hmax => ?_, fun hno => absurd hw (hno j hj (.inr rfl))⟩
    have := hmax j hj (.inr rfl) hw
    rcases hXi with q | q
    · have := wX i hi q hwi; omega
    · rw [q]; exact h1 hw
  · rw [h2 hw]
    refine ⟨fun i hi hXi hwi hmax => ?_, fun hno => h.2 fun i hi hXi => hno i hi (.inl hXi)⟩
    rcases hXi with q | q
    · exact h.1 i hi q hwi fun k hk hXk hwk => hmax k hk (.inl hXk) hwk
    · rw [q] at hwi; exact absurd hwi hw
theorem Mrg.fin {X : Nat → Prop} {x : α} (hU : ∀ j, j < n → ¬ wr j → val (j + 1) = val j) (hX : ∀ i, i < n → X i) (h : Mrg n val wr X x) : x = val n := by
  rcases last_wr hU n (Nat.le_refl _) with ⟨h1, h2⟩ | ⟨m, h1, h2, h3, h4⟩
  · rw [h2]; exact h.2 fun i hi _ => h1 i hi
  · rw [h4]; exact h.1 m h1 (hX m h1) h2 fun k hk _ hw => h3 k hk hw
end Mrg
/-- One operation, and what it leaves. -/
def OpStep (P : Program) (op : Cop) (s : St) (v : V) (h : Hp) (nx : Nat) (rd wr : Option (List Nat)) : Prop :=
  stepI P op s fun v' h' nx' rd' wr' => v' = v ∧ h' = h ∧ nx' = nx ∧ rd' = rd ∧ wr' = wr
def Cop.shared : Cop → Bool
  | .shr .. | .calv .. => true
  | _ => false
def Cop.sharing : Cop → Bool
  | .shr .. | .shq .. | .calv .. => true
  | _ => false
section
variable {P : Program}
theorem stepI_ex {op : Cop} {s : St} {K : V → Hp → Nat → Option (List Nat) → Option (List Nat) → Prop} (h : stepI P op s K) : ∃ v h' nx rd wr, OpStep P op s v h' nx rd wr ∧ K v h' nx rd wr := by
  unfold OpStep
  cases op
  case call f xs => obtain ⟨as, r, h1, h2, h3, h4⟩ := h; exact ⟨_, _, _, _, _, ⟨as, r, h1, h2, h3, rfl, rfl, rfl, rfl, rfl⟩, h4⟩
  case shr f xs => obtain ⟨v, h', nx', h1, h2⟩ := h; exact ⟨_, _, _, _, _, ⟨v, h', nx', h1, rfl, rfl, rfl, rfl, rfl⟩, h2⟩
  case shq f xs => obtain ⟨v, h1, h2⟩ := h; exact ⟨_, _, _, _, _, ⟨v, h1, rfl, rfl, rfl, rfl, rfl⟩, h2⟩
  case calv x xs =>
    simp only [stepI] at h ⊢
    split at h
    · rename_i f caps hx
      obtain ⟨v, h', nx', h1, h2, h3⟩ := h
      refine ⟨_, _, _, _, _, ?_, h3⟩
      exact ⟨v, h', nx', h1, h2, rfl, rfl, rfl, rfl, rfl⟩
    · cases h
  all_goals
    simp only [stepI] at h ⊢
    split at h
    · rename_i r hr
      refine ⟨_, _, _, _, _, ?_, h⟩
      exact ⟨rfl, rfl, rfl, rfl, rfl⟩
    · cases h
theorem opA_writes {c : Cop} {ev : X → V} {h : Hp} {nx : Nat} {r : R} (e : opA c ev h nx = some r) (hw : c.writes = false) : r.wr = some [] := by
  by_cases ht : c.touch = false
  · exact ((opA_loc e).touch ht).2
  · cases c <;> simp only [Cop.writes, Cop.touch, Bool.true_eq_false, not_true_eq_false, not_false_eq_true] at hw ht <;> first | (cases hw; done) | skip
    all_goals
      unfold opA at e
      (try simp only at e)
      (repeat' split at e)
      all_goals first
        | (cases e; done)
        | (injection e with e; subst e; rfl)
        | (rw [Option.map_eq_some_iff] at e; obtain ⟨_, _, rfl⟩ := e; rfl)
        | (unfold ret0 at e; rw [Option.map_eq_some_iff] at e; obtain ⟨_, _, rfl⟩ := e; rfl)
structure OpFacts (P : Program) (op : Cop) (s : St) (v : V) (h : Hp) (nx : Nat) (rd wr : Option (List Nat)) : Prop where
  frame : ∀ id, ¬ inW wr id → h id = s.h id
  sub : ∀ id, inW wr id → inW rd id
  touch : op.touch = false → rd = some [] ∧ wr = some []
  le : op.shared = false → s.nx ≤ nx
  fresh : op.shared = false → (∀ id, s.nx ≤ id → s.h id = none) → ∀ id, nx ≤ id → h id = none
  shared : op.shared = true → rd = none ∧ wr = none
  new : s.nx < nx → ∃ id, inW rd id
  writes : op.writes = false → wr = some []
  sharing : op.sharing = true → rd = none
theorem opStep_facts {op : Cop} {s : St} {v : V} {h : Hp} {nx : Nat} {rd wr : Option (List Nat)} (hs : OpStep P op s v h nx rd wr) : OpFacts P op s v h nx rd wr := by
  unfold OpStep at hs
  cases op
  case call f xs =>
    obtain ⟨as, r, h1, h2, h3, rfl, rfl, rfl, rfl, rfl⟩ := hs
    generalize hvs : xs.map (X.ev s.t) = vs
    have hadd : ∀ id, ¬ (s.nx ≤ id ∧ id < s.nx + r.2.length) → addB s.h s.nx r.2 id = s.h id := fun id hid => by rw [addB_get, if_neg hid]
    have hcw : ∀ id, ¬ inW (callWr vs s.nx r.2.length) id → ¬ (s.nx ≤ id ∧ id < s.nx + r.2.length) := fun id hid hlt => by
      unfold callWr at hid
      split at hid
      · omega
      · rename_i n hn
        split at hid
        · exact hid (mem_newIds.2 (by rw [hn] at hlt; exact hlt))
        · exact hid trivial
    refine ⟨fun id hid => hadd id (hcw id hid), fun id hid => ?_, fun h => (by cases h), fun _ => by omega, fun _ hf id hid => ?_, fun h => (by cases h), fun hlt => ?_, ?_, ?_⟩
    · unfold callWr at hid
      unfold callRd
      split at hid
      · cases hid
      · exact hid
    · rw [hadd id (by omega)]
      exact hf id (by omega)
    · unfold callRd
      split
      · omega
      · split
        · exact ⟨s.nx, mem_newIds.2 (by omega)⟩
        · exact ⟨0, trivial⟩
    · intro h; cases h
    · intro h; cases h
  case shr f xs =>
    obtain ⟨v', h', nx', h1, rfl, rfl, rfl, rfl, rfl⟩ := hs
    exact ⟨fun id hid => absurd trivial hid, fun _ _ => trivial, fun h => (by cases h), fun h => (by cases h), fun h => (by cases h), fun _ => ⟨rfl, rfl⟩, fun _ => ⟨0, trivial⟩, fun h => (by cases h), fun _ => rfl⟩
  case shq f xs =>
    obtain ⟨v', h1, rfl, rfl, rfl, rfl, rfl⟩ := hs
    exact ⟨fun _ _ => rfl, fun _ _ => trivial, fun h => (by cases h), fun _ => Nat.le_refl _, fun _ hf => hf, fun h => (by cases h), fun hlt => absurd hlt (Nat.lt_irrefl _), fun _ => rfl, fun _ => rfl⟩
  case calv x xs =>
    simp only [stepI] at hs
    split at hs
    · obtain ⟨v', h', nx', h1, h2, rfl, rfl, rfl, rfl, rfl⟩ := hs
      exact ⟨fun id hid => absurd trivial hid, fun _ _ => trivial, fun h => (by cases h), fun h => (by cases h), fun h => (by cases h), fun _ => ⟨rfl, rfl⟩, fun _ => ⟨0, trivial⟩, fun h => (by cases h), fun _ => rfl⟩
    · cases hs
  all_goals
    simp only [stepI] at hs
    split at hs
    · rename_i r hr
      obtain ⟨rfl, rfl, rfl, rfl, rfl⟩ := hs
      have hl := opA_loc hr
      refine ⟨hl.frame, hl.sub, hl.touch, fun _ => ?_, fun _ hf => (opA_fresh hf hr).2, fun h => (by cases h), fun hlt => ⟨s.nx, hl.new _ (Nat.le_refl _) hlt⟩, opA_writes hr, fun h => (by cases h)⟩
      exact opA_nx hr
    · cases hs
theorem map_ev {ev ev' : X → V} {xs : List X} (hx : ∀ x ∈ xs, ev x = ev' x) : xs.map ev = xs.map ev' := List.map_congr_left hx
theorem opt_ev {ev ev' : X → V} {x : Option X} (hx : ∀ y ∈ x.toList, ev y = ev' y) : x.map ev = x.map ev' := by
  cases x with
  | none => rfl
  | some y => simp only [Option.map_some]; rw [hx y (by simp)]
theorem fillA_ev {ev ev' : X → V} {esz : Nat} : ∀ (ps : List (Nat × X)) (cs : List V), (∀ x ∈ ps.map (·.2), ev x = ev' x) → fillA esz ev cs ps = fillA esz ev' cs ps
  | [], _, _ => rfl
  | (i, x) :: r, cs, h => by
    unfold fillA
    rw [h x (by simp)]
    split
    · exact fillA_ev r _ fun y hy => h y (by simp only [List.map_cons, List.mem_cons]; exact .inr hy)
    · rfl
theorem fillS_ev {ev ev' : X → V} : ∀ (ps : List (Nat × Nat × X)) (cs : List V), (∀ x ∈ ps.map (·.2.2), ev x = ev' x) → fillS ev cs ps = fillS ev' cs ps
  | [], _, _ => rfl
  | (o, s, x) :: r, cs, h => by
    unfold fillS
    rw [h x (by simp)]
    split
    · exact fillS_ev r _ fun y hy => h y (by simp only [List.map_cons, List.mem_cons]; exact .inr hy)
    · rfl
theorem opA_ev {c : Cop} {ev ev' : X → V} {h : Hp} {nx : Nat} (hx : ∀ x ∈ c.xs, ev x = ev' x) : opA c ev h nx = opA c ev' h nx := by
  cases c <;> simp only [Cop.xs, List.mem_singleton, List.mem_cons, forall_eq_or_imp, forall_eq, List.not_mem_nil, or_false] at hx
  case bs len esz zero ps => simp only [opA]; rw [fillA_ev ps _ hx]
  case bld zero ps => simp only [opA]; rw [fillS_ev ps _ hx]
  case bro len esz zero ps => simp only [opA]; rw [fillA_ev ps _ hx]
  case fnc f cs => simp only [opA]; rw [map_ev hx]
  case slc s x lo hi esz =>
    have h1 : lo.map ev = lo.map ev' := opt_ev fun y hy => hx.2 y (List.mem_append_left _ hy)
    have h2 : hi.map ev = hi.map ev' := opt_ev fun y hy => hx.2 y (List.mem_append_right _ hy)
    simp only [opA, hx.1, h1, h2]
  case sla x lo hi n esz =>
    have h1 : lo.map ev = lo.map ev' := opt_ev fun y hy => hx.2 y (List.mem_append_left _ hy)
    have h2 : hi.map ev = hi.map ev' := opt_ev fun y hy => hx.2 y (List.mem_append_right _ hy)
    simp only [opA, hx.1, h1, h2]
  all_goals first
    | rfl
    | simp only [opA, hx]
/-- An operation where the temporaries that it reads and the blocks that it touches are those of the order of the text. -/
theorem step_loc {sh : Nat → Bool} {o : Oper} {op : Cop} {s : St} {v : V} {h' : Hp} {nx' : Nat} {rd wr : Option (List Nat)} {tX : Nat → V} {hX : Hp} {w0 w : World} {φ : Nat → Nat × Nat} {S : Nat → Prop} {a : Act} {next : Act → World → Prop} {Q : Exit → Act → World → Prop}
    (hs : OpStep P op s v h' nx' rd wr) (hc : IsOp P sh o.op op) (hev : ∀ x ∈ op.xs, X.ev tX x = X.ev s.t x) (hh : ∀ id, inW rd id → hX id = s.h id) (hnew : s.nx < nx' ∨ op.sharing = true → ∀ id, s.nx ≤ id → s.h id = none)
    (hR : Rel P w0 φ S hX w) (ht : ∀ n, Rep φ hX S w (tX n) (a.tmps.getD n undef))
    (hk : ∀ φ' S' x w', Rel P w0 φ' S' (patch hX h' wr) w' → Ext φ hX S w φ' (patch hX h' wr) S' w' → (∀ b, S' b → b < w0.heap.size → S b) → Rep φ' (patch hX h' wr) S' w' v x → (op.shared = true → ∀ id, nx' ≤ id → h' id = none) → next (a.put o.dst x) w') : o.wp P a w next Q := by
  have gen : ∀ r, opA op (X.ev s.t) s.h s.nx = some r → r.v = v → r.h = h' → r.nx = nx' → r.rd = rd → r.wr = wr → op.shared = false → o.wp P a w next Q := by
    intro r hr e1 e2 e3 e4 e5 hsh
    have hl := opA_loc hr
    have h1 := hl.loc hX (by rw [e4]; exact hh)
    rw [← opA_ev hev] at h1
    obtain ⟨x, w', φ', S', hrun, hR', he, hsub, hv⟩ := opSound' hR ht hc h1 (fun id q1 q2 => by
      simp only at q2
      rw [hh id (by rw [← e4]; exact hl.new id q1 q2)]
      exact hnew (.inl (by omega)) id q1)
    simp only [e1, e2, e5] at hR' he hv
    have := hk φ' S' x w' hR' he hsub hv (fun h => by rw [hsh] at h; cases h)
    unfold Oper.wp
    rcases hrun with hrun | ⟨hrun, hx⟩
    · rw [hrun]; exact this
    · rw [hrun]; subst hx; exact this
  unfold OpStep at hs
  cases op
  case call f xs =>
    obtain ⟨as, r, h1, h2, h3, rfl, rfl, rfl, rfl, rfl⟩ := hs
    obtain ⟨args, ⟨⟨ts, hop⟩, hcx⟩, fn, hf1, hf2, hf3⟩ := call_inv (hc.comp (by intro _ _ _ _ q; cases q)) (.inl rfl)
    have hreps := evs_rep (s := ⟨tX, hX, s.nx⟩) ht hcx
    have hmap : (args.toList.map a.eval).toArray = args.map a.eval := by rw [← Array.toList_map, Array.toArray_toList]
    rw [hmap] at hreps
    simp only at hreps
    have hargs : xs.map (X.ev tX) = xs.map (X.ev s.t) := map_ev fun x hx => hev x hx
    rw [hargs] at hreps
    generalize hvs : xs.map (X.ev s.t) = vs at *
    have hnr : hX = s.h ∨ (vs.all noRef = true ∧ ∀ id, s.nx ≤ id → id < s.nx + r.2.length → hX id = s.h id) := by
      by_cases z : vs.all noRef = true
      · refine .inr ⟨z, fun id q1 q2 => hh id ?_⟩
        unfold callRd
        split
        · omega
        · rename_i n hn
          rw [if_pos z]
          exact mem_newIds.2 ⟨q1, by rw [hn] at q2; exact q2⟩
      · refine .inl (funext fun id => hh id ?_)
        unfold callRd
        split
        · unfold rdOf; rw [if_neg z]; trivial
        · rw [if_neg z]; trivial
    have hp : patch hX (addB s.h s.nx r.2) (callWr vs s.nx r.2.length) = addB hX s.nx r.2 := by
      rcases hnr with q | ⟨z, q⟩
      · subst q
        funext id
        by_cases hw : inW (callWr vs s.nx r.2.length) id
        · simp only [patch, if_pos hw]
        · simp only [patch, if_neg hw]
          rw [addB_get, if_neg]
          intro hlt
          apply hw
          unfold callWr
          split
          · omega
          · rename_i n hn
            split
            · exact mem_newIds.2 (by rw [hn] at hlt; exact hlt)
            · trivial
      · funext id
        have hiw : inW (callWr vs s.nx r.2.length) id ↔ (s.nx ≤ id ∧ id < s.nx + r.2.length) := by
          unfold callWr
          split
          · rename_i hn
            constructor
            · intro h; cases h
            · intro h; rw [hn] at h; omega
          · rename_i n hn
            rw [if_pos z, hn]
            exact mem_newIds
        by_cases hw : inW (callWr vs s.nx r.2.length) id
        · simp only [patch, if_pos hw]
          rw [addB_get, addB_get, if_pos (hiw.1 hw), if_pos (hiw.1 hw)]
        · simp only [patch, if_neg hw]
          rw [addB_get, if_neg (fun h => hw (hiw.2 h))]
    rw [hp] at hk
    have hro : vs.mapM (toRO hX 8) = some as := by
      rcases hnr with q | ⟨z, _⟩
      · rw [q]; exact h1
      · rw [← h1]
        rw [List.all_eq_true] at z
        have : ∀ (l : List V), (∀ v ∈ l, noRef v = true) → l.mapM (toRO hX 8) = l.mapM (toRO s.h 8) := by
          intro l
          induction l with
          | nil => intro _; rfl
          | cons v l ih =>
            intro hl
            rw [List.mapM_cons, List.mapM_cons, ih fun v hv => hl v (List.mem_cons_of_mem _ hv), noRef_same (hl v List.mem_cons_self)]
        exact this _ z
    refine wp_of_calls (run_call hop hf1 hf2 hf3) (calls_pure (nx := s.nx) hR (fun id q1 q2 => ?_) hreps hro h2 h3) fun e w'' he => ?_
    · have hq : hX id = s.h id := by
        rcases hnr with q | ⟨_, q⟩
        · rw [q]
        · exact q id q1 q2
      rw [hq]
      refine hnew (.inl ?_) id q1
      omega
    · obtain ⟨x, φ', S', rfl, q1, q2, q3, q4⟩ := he
      exact ⟨x, rfl, hk φ' S' x w'' q1 q2 (fun b hb hlt => q3 b hb (Nat.lt_of_lt_of_le hlt hR.base)) q4 (fun h => by cases h)⟩
  case shr f xs =>
    obtain ⟨v', h'', nx'', s3, rfl, rfl, rfl, rfl, rfl⟩ := hs
    have hX' : hX = s.h := funext fun id => hh id trivial
    obtain ⟨args, ⟨⟨ts, hop⟩, hcx⟩, fn, hf1, hf2, hf3⟩ := call_inv (hc.comp (by intro _ _ _ _ q; cases q)) (.inr (.inl rfl))
    have hreps := evs_rep (s := ⟨tX, hX, s.nx⟩) ht hcx
    have hmap : (args.toList.map a.eval).toArray = args.map a.eval := by rw [← Array.toList_map, Array.toArray_toList]
    rw [hmap] at hreps
    simp only at hreps
    have hargs : xs.map (X.ev tX) = xs.map (X.ev s.t) := map_ev fun x hx => hev x hx
    rw [hargs] at hreps
    rw [patch_none] at hk
    subst hX'
    refine wp_of_calls (run_call hop hf1 hf2 hf3) (s3 w0 w φ S _ (hnew (.inr rfl)) hR hreps) fun e w'' he => ?_
    obtain ⟨x, φ', S', rfl, q1, q2, q3, s2, q4⟩ := he
    exact ⟨x, rfl, hk φ' S' x w'' q1 q2 q3 q4 (fun _ => s2)⟩
  case shq f xs =>
    obtain ⟨v', s3, rfl, rfl, rfl, rfl, rfl⟩ := hs
    have hX' : hX = s.h := funext fun id => hh id trivial
    obtain ⟨args, ⟨⟨ts, hop⟩, hcx⟩, fn, hf1, hf2, hf3⟩ := call_inv (hc.comp (by intro _ _ _ _ q; cases q)) (.inr (.inr rfl))
    have hreps := evs_rep (s := ⟨tX, hX, s.nx⟩) ht hcx
    have hmap : (args.toList.map a.eval).toArray = args.map a.eval := by rw [← Array.toList_map, Array.toArray_toList]
    rw [hmap] at hreps
    simp only at hreps
    have hargs : xs.map (X.ev tX) = xs.map (X.ev s.t) := map_ev fun x hx => hev x hx
    rw [hargs] at hreps
    rw [patch_nil] at hk
    subst hX'
    refine wp_of_calls (run_call hop hf1 hf2 hf3) (s3 w0 w φ S _ (hnew (.inr rfl)) hR hreps) fun e w'' he => ?_
    obtain ⟨x, φ', S', rfl, q1, q2, q3, s2, q4⟩ := he
    exact ⟨x, rfl, hk φ' S' x w'' q1 q2 q3 q4 (fun h => by cases h)⟩
  case calv x xs =>
    obtain ⟨t0, args, rfl, ⟨ts, hop⟩, hcx⟩ := calv_inv (hc.comp (by intro _ _ _ _ q; cases q))
    simp only [stepI] at hs
    split at hs
    · rename_i f caps hfn
      obtain ⟨v', h'', nx'', s3, hf, rfl, rfl, rfl, rfl, rfl⟩ := hs
      have hX' : hX = s.h := funext fun id => hh id trivial
      obtain ⟨fn, hf1, hf2, hf3⟩ := hf
      have hreps := evs_rep (s := ⟨tX, hX, s.nx⟩) ht hcx
      have hmap : (args.toList.map a.eval).toArray = args.map a.eval := by rw [← Array.toList_map, Array.toArray_toList]
      rw [hmap] at hreps
      simp only at hreps
      have hargs : xs.map (X.ev tX) = xs.map (X.ev s.t) := map_ev fun x hx => hev x (List.mem_cons_of_mem _ hx)
      rw [hargs] at hreps
      rw [patch_none] at hk
      have rt := ht t0
      have hx0 := hev (.t t0) List.mem_cons_self
      simp only [X.ev] at hfn hx0
      rw [hx0, hfn] at rt
      generalize hvt : a.tmps.getD t0 undef = vt at rt
      cases rt
      rename_i cv k1 k2
      have hev : a.eval (.tmp t0) = .func (.func f) #[] cv := hvt
      subst hX'
      refine wp_of_calls (run_calv hop hev hf1 hf2 hf3) (s3 w0 w φ S _ (hnew (.inr rfl)) hR ⟨by simp [hreps.1, k1], fun i c y hc hy => ?_⟩) fun e w'' he => ?_
      · have hl := hreps.1
        by_cases hi : i < (args.map a.eval).size
        · rw [Array.getElem?_append_left hi] at hy
          rw [List.getElem?_append_left (by omega)] at hc
          exact hreps.2 i c y hc hy
        · rw [Array.getElem?_append_right (by omega)] at hy
          rw [List.getElem?_append_right (by omega), ← hl] at hc
          exact k2 _ c y hc hy
      · obtain ⟨x, φ', S', rfl, q1, q2, q3, s2, q4⟩ := he
        exact ⟨x, rfl, hk φ' S' x w'' q1 q2 q3 q4 (fun _ => s2)⟩
    · cases hs
  all_goals
    simp only [stepI] at hs
    split at hs
    · rename_i r hr
      obtain ⟨e1, e2, e3, e4, e5⟩ := hs
      exact gen r hr e1 e2 e3 e4 e5 rfl
    · cases hs
end
end Go.Ex
