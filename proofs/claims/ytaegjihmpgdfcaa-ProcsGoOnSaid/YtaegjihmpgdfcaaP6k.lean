/- The machine of procedures that go, in plain Lean. -/
import Derived.Test.YtaegjihmpgdfcaaP6x
set_option linter.unusedVariables false
set_option linter.unusedSimpArgs false
namespace Go.Proofs.P6
open Go.Ex
/-- At, Command. -/
abbrev Did := Int × List UInt8
def didCd : Cd Did := .pair (.int .i64) .str
/-- A procedure that goes. -/
structure M where
  pl : List Place
  now : Int
  done : Int
  all : Int
  did : List Did
inductive Res where
  | go (m : M)
  | stop (m : M)
  | err (e : Int)
def stepsOf (p : List Prc) (s : List UInt8) : List Step := match p[(prI p s).toNat]? with
  | some x => x.2
  | none => []
def M.to (m : M) (t : Int) : M := if m.now < t then { m with now := t, done := 0 } else m
def M.set (m : M) (a : List Place) (x : Place) : M := { m with pl := a ++ [x] }
def labI (l : List Step) (s : List UInt8) : Int := ixI (isLab s) l
def waited (f : List Fact) (until' : Int) (m : M) (a : List Place) (x : Place) (l : List Step) (s : Step) : Res :=
  if decide (s.1 = 3) && (since (spansOf f s.2.1) m.now).2 && decide ((since (spansOf f s.2.1) m.now).1 ≤ x.2.2) then
    (if until' < (since (spansOf f s.2.1) m.now).1 then .stop (m.set a x) else .go ((m.to (since (spansOf f s.2.1) m.now).1).set a (x.1, x.2.1 + 1, -1)))
  else if until' < x.2.2 then .stop (m.set a x)
  else .go ((m.to x.2.2).set a (x.1, (if s.1 = 3 then labI l s.2.2.1 + 1 else x.2.1 + 1), -1))
def act (f : List Fact) (m : M) (a : List Place) (x : Place) (l : List Step) (s : Step) : M :=
  if s.1 = 1 then { m with did := m.did ++ [(m.now, s.2.1)], pl := a ++ [(x.1, x.2.1 + 1, -1)] }
  else if s.1 = 2 ∨ s.1 = 3 then m.set a (x.1, x.2.1, m.now + s.2.2.2.1)
  else if s.1 = 4 then (if isF f s.2.1 m.now != s.2.2.2.2 then m.set a (x.1, labI l s.2.2.1 + 1, -1) else m.set a (x.1, x.2.1 + 1, -1))
  else if s.1 = 5 then m.set a (x.1, labI l s.2.2.1 + 1, -1)
  else if s.1 = 8 then m.set a (x.1, x.2.1 + 1, -1)
  else if s.1 = 6 then { m with pl := a ++ [(x.1, x.2.1 + 1, -1)] ++ [(s.2.1, 0, -1)] }
  else m.set a (x.1, l.length, -1)
def M.tick (m : M) : M := { m with done := m.done + 1, all := m.all + 1 }
def stepR (p : List Prc) (f : List Fact) (until' : Int) (m : M) (a : List Place) (x : Place) : Res := match (stepsOf p x.1)[x.2.1.toNat]? with
  | none => .go { m with pl := a }
  | some s => if 0 ≤ x.2.2 then waited f until' m a x (stepsOf p x.1) s
    else if 5000 < m.done + 1 then .err 17
    else if 200000 < m.all + 1 then .err 2
    else if 5000 < (act f m.tick a x (stepsOf p x.1) s).did.length then .err 2
    else .go (act f m.tick a x (stepsOf p x.1) s)
/-- Dids, places, moment, fault. -/
abbrev Out := List Did × List Place × Int × Int
inductive Runs (p : List Prc) (f : List Fact) (until' : Int) : M → Out → Prop where
  | fin {m : M} : m.pl = [] → Runs p f until' m (m.did, [], m.now, 0)
  | stop {m : M} {a x m'} : m.pl = a ++ [x] → stepR p f until' m a x = .stop m' → Runs p f until' m (m'.did, m'.pl, until', 0)
  | err {m : M} {a x e} : m.pl = a ++ [x] → stepR p f until' m a x = .err e → Runs p f until' m ([], [], 0, e)
  | go {m : M} {a x m' o} : m.pl = a ++ [x] → stepR p f until' m a x = .go m' → Runs p f until' m' o → Runs p f until' m o
theorem Runs.inv {p : List Prc} {f : List Fact} {until' : Int} {m : M} {o : Out} (h : Runs p f until' m o) {a : List Place} {x : Place} (hm : m.pl = a ++ [x]) : match stepR p f until' m a x with
    | .go m' => Runs p f until' m' o
    | .stop m' => o = (m'.did, m'.pl, until', 0)
    | .err e => o = ([], [], 0, e) := by
  have inj : ∀ {a' : List Place} {x' : Place}, m.pl = a' ++ [x'] → a' = a ∧ x' = x := by
    intro a' x' h'
    rw [hm] at h'
    have := List.append_inj' h' rfl
    exact ⟨this.1.symm, by simpa using this.2.symm⟩
  cases h with
  | fin h1 => rw [hm] at h1; simp at h1
  | stop h1 h2 => obtain ⟨rfl, rfl⟩ := inj h1; rw [h2]
  | err h1 h2 => obtain ⟨rfl, rfl⟩ := inj h1; rw [h2]
  | go h1 h2 h3 => obtain ⟨rfl, rfl⟩ := inj h1; rw [h2]; exact h3
theorem Runs.nil {p : List Prc} {f : List Fact} {until' : Int} {m : M} {o : Out} (h : Runs p f until' m o) (hm : m.pl = []) : o = (m.did, [], m.now, 0) := by
  cases h with
  | fin h1 => rfl
  | stop h1 h2 => rw [hm] at h1; simp at h1
  | err h1 h2 => rw [hm] at h1; simp at h1
  | go h1 h2 h3 => rw [hm] at h1; simp at h1
/-- Right procedures. -/
structure GP (p : List Prc) : Prop where
  len : p.length ≤ 50
  right : Right1 p
  no : ∀ x ∈ p, ∀ s ∈ x.2, noStep p x s = false
  acyc : ∀ i, i < p.length → loopB p i = false
theorem GP.of {p : List Prc} (h : procsE p = 0) : GP p := by
  have h5 := procs_le h
  have h' := h
  rw [procsE_of h5] at h'
  split at h'
  · rename_i q; exact absurd h' q
  split at h'
  · cases h'
  rename_i q1 q2
  split at h'
  · cases h'
  rename_i q3
  refine ⟨h5, places_proc h, no_zero (by simpa using q2), fun i hi => ?_⟩
  cases hl : loopB p i with
  | false => rfl
  | true => exact absurd ⟨i, hi, hl⟩ q3
theorem labI_lt (l : List Step) (s : List UInt8) : labI l s < l.length := by
  unfold labI
  rcases ixI_cases (isLab s) l with ⟨h1, _⟩ | ⟨k, a, h1, h2, _⟩
  · rw [h1]; omega
  · rw [h1]
    have := (List.getElem?_eq_some_iff.1 h2).1
    omega
theorem stepsOf_get {p : List Prc} {s : List UInt8} (h : 0 ≤ prI p s) : ∃ x, p[(prI p s).toNat]? = some x ∧ x.1 = s ∧ stepsOf p s = x.2 := by
  obtain ⟨x, h1, h2⟩ := prI_get h
  exact ⟨x, h1, h2, by unfold stepsOf; rw [h1]⟩
/-- What is known of a step. -/
structure SF (p : List Prc) (l : List Step) (s : Step) : Prop where
  kind : 1 ≤ s.1 ∧ s.1 ≤ 8
  num : s.1 = 2 ∨ s.1 = 3 → 1 ≤ s.2.2.2.1 ∧ s.2.2.2.1 ≤ 1000000000
  lab : s.1 = 3 ∨ s.1 = 4 ∨ s.1 = 5 → 0 ≤ labI l s.2.2.1
  call : s.1 = 6 → 0 ≤ prI p s.2.1
theorem GP.sf {p : List Prc} (hg : GP p) {n : List UInt8} (hn : 0 ≤ prI p n) {s : Step} (hs : s ∈ stepsOf p n) : SF p (stepsOf p n) s := by
  obtain ⟨x, h1, h2, h3⟩ := stepsOf_get hn
  have hx := List.mem_of_getElem? h1
  rw [h3] at hs ⊢
  have hE := (hg.right.steps x hx).2.2 s hs
  have hN := hg.no x hx s hs
  unfold stepE at hE
  split at hE
  · cases hE
  rename_i q1
  split at hE
  · cases hE
  split at hE
  · cases hE
  split at hE
  · cases hE
  rename_i q4
  split at hE
  · cases hE
  refine ⟨by simp [inB] at q1; omega, fun h => ?_, fun h => ?_, fun h => ?_⟩
  · have : nB s.1 = true := by unfold nB; simpa using h
    rw [this] at q4
    simp [inB] at q4
    omega
  · have : goB s.1 = true := by unfold goB; simp; omega
    unfold noStep at hN
    rw [this] at hN
    simp at hN
    exact hN.1
  · unfold noStep at hN
    simp [h] at hN
    exact hN.2
theorem GP.steps_le {p : List Prc} (hg : GP p) (n : List UInt8) : (stepsOf p n).length ≤ 200 := by
  unfold stepsOf
  split
  · rename_i x hx
    exact (hg.right.steps x (List.mem_of_getElem? hx)).1
  · simp
/-- A place is right. -/
structure PF (p : List Prc) (y : Place) : Prop where
  pr : 0 ≤ prI p y.1
  st : 0 ≤ y.2.1 ∧ y.2.1 ≤ (stepsOf p y.1).length
  un : -1 ≤ y.2.2 ∧ y.2.2 ≤ 1001000000000
  wt : 0 ≤ y.2.2 → kindAt (stepsOf p y.1) y.2.1.toNat waitsB = true
structure Ok (p : List Prc) (until' : Int) (m : M) : Prop where
  pl : ∀ y ∈ m.pl, PF p y
  now : 0 ≤ m.now ∧ m.now ≤ until' ∧ until' ≤ 1000000000000
  done : 0 ≤ m.done ∧ m.done ≤ 5000
  all : 0 ≤ m.all ∧ m.all ≤ 200000
  did : m.did.length ≤ 5000
  len : (m.pl.length : Int) ≤ 50 + m.all
def waits (l : List Place) : Nat := (l.filter fun y => decide (0 ≤ y.2.2)).length
def mu (m : M) : Nat := 3 * (200000 - m.all).toNat + m.pl.length + waits m.pl
theorem waits_snoc (a : List Place) (x : Place) : waits (a ++ [x]) = waits a + if 0 ≤ x.2.2 then 1 else 0 := by
  unfold waits
  rw [List.filter_append, List.length_append]
  by_cases h : 0 ≤ x.2.2 <;> simp [h]
theorem since_ge {l : List Span} {n : Int} (h : (since l n).2 = true) : n ≤ (since l n).1 := by
  unfold since at h ⊢
  split
  · simp; omega
  · rename_i q; rw [q] at h; cases h
theorem M.to_all (m : M) (t : Int) : (m.to t).all = m.all := by unfold M.to; split <;> rfl
theorem M.to_did (m : M) (t : Int) : (m.to t).did = m.did := by unfold M.to; split <;> rfl
theorem Ok.to {p : List Prc} {until' : Int} {m : M} (h : Ok p until' m) {t : Int} (ht : t ≤ until') {a : List Place} {x y : Place} (hm : m.pl = a ++ [x]) (hy : PF p y) : Ok p until' ((m.to t).set a y) := by
  have hl := h.len
  rw [hm] at hl
  have hpl : ∀ z ∈ a ++ [y], PF p z := by
    intro z hz
    rw [List.mem_append] at hz
    rcases hz with hz | hz
    · exact h.pl z (by rw [hm]; exact List.mem_append_left _ hz)
    · rw [List.mem_singleton] at hz; rw [hz]; exact hy
  have hlen : ((a ++ [y]).length : Int) ≤ 50 + m.all := by simpa using hl
  unfold M.to M.set
  have := h.now
  split
  · exact ⟨hpl, ⟨by show 0 ≤ t; omega, ht, by omega⟩, ⟨by simp, by simp⟩, h.all, h.did, hlen⟩
  · exact ⟨hpl, h.now, h.done, h.all, h.did, hlen⟩
theorem act_all (f : List Fact) (m : M) (a : List Place) (x : Place) (l : List Step) (s : Step) : (act f m a x l s).all = m.all := by
  unfold act M.set
  repeat' split
  all_goals rfl
theorem act_now (f : List Fact) (m : M) (a : List Place) (x : Place) (l : List Step) (s : Step) : (act f m a x l s).now = m.now := by
  unfold act M.set
  repeat' split
  all_goals rfl
theorem act_done (f : List Fact) (m : M) (a : List Place) (x : Place) (l : List Step) (s : Step) : (act f m a x l s).done = m.done := by
  unfold act M.set
  repeat' split
  all_goals rfl
theorem PF.on {p : List Prc} {x : Place} (h : PF p x) {k : Int} (h1 : 0 ≤ k) (h2 : k ≤ (stepsOf p x.1).length) : PF p (x.1, k, -1) :=
  ⟨h.pr, ⟨h1, h2⟩, ⟨by simp, by simp⟩, fun q => by simp at q⟩
theorem act_pl {p : List Prc} (hg : GP p) {f : List Fact} {until' : Int} {m : M} {a : List Place} {x : Place} {s : Step} (hs : (stepsOf p x.1)[x.2.1.toNat]? = some s) (hx : PF p x) (hu : 0 ≤ m.now ∧ m.now ≤ 1000000000000) :
    ∃ y z, (act f m a x (stepsOf p x.1) s).pl = a ++ [y] ++ z ∧ PF p y ∧ (z = [] ∨ s.1 = 6 ∧ y = (x.1, x.2.1 + 1, -1) ∧ z = [(s.2.1, 0, -1)] ∧ PF p (s.2.1, 0, -1)) ∧ ((z = [] ∧ (y.2.2 = -1 ∨ 0 ≤ y.2.2)) ∨ (y.2.2 = -1 ∧ z.length = 1)) := by
  have hf := hg.sf hx.pr (List.mem_of_getElem? hs)
  have hlt := (List.getElem?_eq_some_iff.1 hs).1
  have hst := hx.st
  have next : PF p (x.1, x.2.1 + 1, -1) := hx.on (by omega) (by omega)
  have hlb := labI_lt (stepsOf p x.1) s.2.2.1
  unfold act
  split
  · exact ⟨(x.1, x.2.1 + 1, -1), [], by simp, next, .inl rfl, .inl ⟨rfl, .inl rfl⟩⟩
  split
  · rename_i h23
    have hn := hf.num h23
    refine ⟨(x.1, x.2.1, m.now + s.2.2.2.1), [], by simp [M.set], ⟨hx.pr, hst, ⟨by simp; omega, by simp; omega⟩, fun _ => ?_⟩, .inl rfl, .inl ⟨rfl, .inr (by simp; omega)⟩⟩
    simp only [kindAt, hs, waitsB]
    simpa using h23
  split
  · rename_i h4
    have := hf.lab (.inr (.inl h4))
    split
    · exact ⟨(x.1, labI (stepsOf p x.1) s.2.2.1 + 1, -1), [], by simp [M.set], hx.on (by omega) (by omega), .inl rfl, .inl ⟨rfl, .inl rfl⟩⟩
    · exact ⟨(x.1, x.2.1 + 1, -1), [], by simp [M.set], next, .inl rfl, .inl ⟨rfl, .inl rfl⟩⟩
  split
  · rename_i h5
    have := hf.lab (.inr (.inr h5))
    exact ⟨(x.1, labI (stepsOf p x.1) s.2.2.1 + 1, -1), [], by simp [M.set], hx.on (by omega) (by omega), .inl rfl, .inl ⟨rfl, .inl rfl⟩⟩
  split
  · exact ⟨(x.1, x.2.1 + 1, -1), [], by simp [M.set], next, .inl rfl, .inl ⟨rfl, .inl rfl⟩⟩
  split
  · rename_i h6
    have hc := hf.call h6
    exact ⟨(x.1, x.2.1 + 1, -1), [(s.2.1, 0, -1)], by simp, next, .inr ⟨h6, rfl, rfl, ⟨hc, ⟨by simp, by simp⟩, ⟨by simp, by simp⟩, fun q => by simp at q⟩⟩, .inr ⟨rfl, rfl⟩⟩
  · exact ⟨(x.1, (stepsOf p x.1).length, -1), [], by simp [M.set], hx.on (by omega) (by omega), .inl rfl, .inl ⟨rfl, .inl rfl⟩⟩
theorem waited_ok {p : List Prc} (hg : GP p) {f : List Fact} {until' : Int} {m : M} (h : Ok p until' m) {a : List Place} {x : Place} (hm : m.pl = a ++ [x]) {s : Step} (hs : (stepsOf p x.1)[x.2.1.toNat]? = some s) (hx : PF p x) (h0 : 0 ≤ x.2.2) :
    (∃ y t, waited f until' m a x (stepsOf p x.1) s = .go ((m.to t).set a y) ∧ PF p y ∧ y.2.2 = -1 ∧ t ≤ until') ∨ waited f until' m a x (stepsOf p x.1) s = .stop (m.set a x) := by
  have hf := hg.sf hx.pr (List.mem_of_getElem? hs)
  have hlt := (List.getElem?_eq_some_iff.1 hs).1
  have hst := hx.st
  have hlb := labI_lt (stepsOf p x.1) s.2.2.1
  have next : PF p (x.1, x.2.1 + 1, -1) := hx.on (by omega) (by omega)
  unfold waited
  split
  · split
    · exact .inr rfl
    · exact .inl ⟨_, _, rfl, next, rfl, by omega⟩
  split
  · exact .inr rfl
  · refine .inl ⟨_, _, rfl, ?_, rfl, by omega⟩
    split
    · rename_i h3
      have := hf.lab (.inl h3)
      exact hx.on (by omega) (by omega)
    · exact next
theorem Ok.step {p : List Prc} (hg : GP p) {f : List Fact} {until' : Int} {m : M} (h : Ok p until' m) {a : List Place} {x : Place} (hm : m.pl = a ++ [x]) {m' : M} (hs : stepR p f until' m a x = .go m') : Ok p until' m' ∧ mu m' < mu m := by
  have hx : PF p x := h.pl x (by rw [hm]; simp)
  have hl := h.len
  have hall := h.all
  have hmu : mu m = 3 * (200000 - m.all).toNat + (a.length + 1) + (waits a + if 0 ≤ x.2.2 then 1 else 0) := by
    unfold mu
    rw [hm, waits_snoc]
    simp
  rw [hm] at hl
  simp only [List.length_append, List.length_singleton] at hl
  have hpa : ∀ z ∈ a, PF p z := fun z hz => h.pl z (by rw [hm]; exact List.mem_append_left _ hz)
  unfold stepR at hs
  split at hs
  · injection hs with hs
    subst hs
    refine ⟨⟨hpa, h.now, h.done, h.all, h.did, by simp only; omega⟩, ?_⟩
    rw [hmu]
    unfold mu
    simp only
    omega
  · rename_i s hg'
    split at hs
    · rename_i h0
      rcases waited_ok hg h hm hg' hx h0 (f := f) with ⟨y, t, e, hy, hu, ht⟩ | e
      · rw [e] at hs
        injection hs with hs
        subst hs
        refine ⟨h.to ht hm hy, ?_⟩
        rw [hmu, if_pos h0]
        unfold mu M.set
        simp only [M.to_all, waits_snoc, hu]
        simp
      · rw [e] at hs; cases hs
    · rename_i h0
      split at hs
      · cases hs
      split at hs
      · cases hs
      rename_i q1 q2
      split at hs
      · cases hs
      rename_i q3
      injection hs with hs
      have hn := h.now
      obtain ⟨y, z, e1, e2, e3, e4⟩ := act_pl hg hg' hx (m := m.tick) (f := f) (a := a) (until' := until') ⟨hn.1, by simp only [M.tick]; omega⟩
      have hd := h.done
      subst hs
      have ea := act_all f m.tick a x (stepsOf p x.1) s
      refine ⟨⟨fun w hw => ?_, by rw [act_now]; exact h.now, by rw [act_done]; simp only [M.tick]; omega, by rw [ea]; simp only [M.tick]; omega, by omega, ?_⟩, ?_⟩
      · rw [e1, List.mem_append, List.mem_append] at hw
        rcases hw with (hw | hw) | hw
        · exact hpa w hw
        · rw [List.mem_singleton] at hw; rw [hw]; exact e2
        · rcases e3 with e3 | ⟨_, _, e3, e5⟩
          · rw [e3] at hw; cases hw
          · rw [e3, List.mem_singleton] at hw; rw [hw]; exact e5
      · rw [ea, e1]
        simp only [M.tick, List.length_append, List.length_singleton]
        rcases e3 with e3 | ⟨_, _, e3, _⟩ <;> rw [e3] <;> simp <;> omega
      · rw [hmu, if_neg h0]
        unfold mu
        rw [ea, e1]
        simp only [M.tick]
        rcases e3 with e3 | ⟨_, e5, e3, _⟩
        · rw [e3]
          simp only [List.append_nil, waits_snoc, List.length_append, List.length_singleton]
          split <;> omega
        · rw [e3, waits_snoc, waits_snoc, e5]
          simp
          omega
theorem runs_ex {p : List Prc} (hg : GP p) (f : List Fact) (until' : Int) : ∀ (n : Nat) (m : M), mu m ≤ n → Ok p until' m → ∃ o, Runs p f until' m o := by
  intro n
  induction n with
  | zero =>
    intro m hm h
    rcases List.eq_nil_or_concat m.pl with e | ⟨a, x, e⟩
    · exact ⟨_, .fin e⟩
    · rw [List.concat_eq_append] at e
      cases hs : stepR p f until' m a x with
      | go m' => have := (h.step hg e hs).2; omega
      | stop m' => exact ⟨_, .stop e hs⟩
      | err e' => exact ⟨_, .err e hs⟩
  | succ n ih =>
    intro m hm h
    rcases List.eq_nil_or_concat m.pl with e | ⟨a, x, e⟩
    · exact ⟨_, .fin e⟩
    · rw [List.concat_eq_append] at e
      cases hs : stepR p f until' m a x with
      | go m' =>
        obtain ⟨h1, h2⟩ := h.step hg e hs
        obtain ⟨o, ho⟩ := ih m' (by omega) h1
        exact ⟨o, .go e hs ho⟩
      | stop m' => exact ⟨_, .stop e hs⟩
      | err e' => exact ⟨_, .err e hs⟩
end Go.Proofs.P6
