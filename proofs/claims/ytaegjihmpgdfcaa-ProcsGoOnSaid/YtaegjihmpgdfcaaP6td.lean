/- The machine of procedures: places stay right, dids in order; plain Lean. -/
import Derived.Test.YtaegjihmpgdfcaaP6tc
set_option linter.unusedVariables false
set_option linter.unusedSimpArgs false
namespace Go.Proofs.P6
open Go.Ex
variable {p : List Prc} {f : List Fact} {until' : Int}
/-- A place calls the next one. -/
def link (p : List Prc) (y z : Place) : Prop := y.2.2 = -1 ∧ 0 < y.2.1 ∧ kindAt (stepsOf p y.1) (y.2.1.toNat - 1) (fun w => decide (w.1 = 6) && decide (w.2.1 = z.1)) = true
def PChain (p : List Prc) (pl : List Place) : Prop := ∀ (k : Nat) y z, pl[k]? = some y → pl[k + 1]? = some z → link p y z
theorem PChain.init {a : List Place} {x : Place} (h : PChain p (a ++ [x])) : PChain p a := by
  intro k y z h1 h2
  have l2 := (List.getElem?_eq_some_iff.1 h2).1
  exact h k y z (by rw [List.getElem?_append_left (by omega)]; exact h1) (by rw [List.getElem?_append_left (by omega)]; exact h2)
theorem PChain.snoc {a : List Place} {z : Place} (h : PChain p a) (hl : ∀ b y, a = b ++ [y] → link p y z) : PChain p (a ++ [z]) := by
  intro k y w h1 h2
  have l2 := (List.getElem?_eq_some_iff.1 h2).1
  simp only [List.length_append, List.length_singleton] at l2
  by_cases q : k + 1 < a.length
  · rw [List.getElem?_append_left (by omega)] at h1 h2
    exact h k y w h1 h2
  · have e : a.length = k + 1 := by omega
    rw [List.getElem?_append_left (by omega)] at h1
    rw [List.getElem?_append_right (by omega), e, Nat.sub_self] at h2
    simp at h2
    subst h2
    rcases List.eq_nil_or_concat a with e2 | ⟨b, y', e2⟩
    · subst e2; simp at h1
    · rw [List.concat_eq_append] at e2
      have hb : b.length = k := by rw [e2] at e; simp at e; omega
      rw [e2, List.getElem?_append_right (by omega), hb, Nat.sub_self] at h1
      simp at h1
      subst h1
      exact hl b y' e2
theorem PChain.last {a b : List Place} {x y : Place} (h : PChain p (a ++ [x])) (e : a = b ++ [y]) : link p y x := by
  subst e
  refine h b.length y x ?_ ?_
  · rw [List.getElem?_append_left (by simp), List.getElem?_append_right (Nat.le_refl _), Nat.sub_self]; rfl
  · rw [List.getElem?_append_right (by simp)]; simp
theorem PChain.set {a : List Place} {x y : Place} (h : PChain p (a ++ [x])) (e : y.1 = x.1) : PChain p (a ++ [y]) :=
  h.init.snoc fun b w hb => by
    obtain ⟨h1, h2, h3⟩ := h.last hb
    exact ⟨h1, h2, by rw [e]; exact h3⟩
theorem M.to_pl (m : M) (t : Int) : (m.to t).pl = m.pl := by unfold M.to; split <;> rfl
theorem waited_pl {m : M} {a : List Place} {x : Place} {l : List Step} {s : Step} : (∃ y t, waited f until' m a x l s = .go ((m.to t).set a y) ∧ y.1 = x.1) ∨ waited f until' m a x l s = .stop (m.set a x) := by
  unfold waited
  repeat' split
  all_goals first
    | exact .inr rfl
    | exact .inl ⟨_, _, rfl, rfl⟩
theorem PChain.act (hg : GP p) {m : M} {a : List Place} {x : Place} {s : Step} (hs : (stepsOf p x.1)[x.2.1.toNat]? = some s) (hx : PF p x) (h : PChain p (a ++ [x])) : PChain p (act f m a x (stepsOf p x.1) s).pl := by
  have hst := hx.st
  unfold Go.Proofs.P6.act
  repeat' split
  all_goals first
    | exact h.set rfl
    | skip
  rename_i h6
  refine (h.set (y := (x.1, x.2.1 + 1, -1)) rfl).snoc fun b y hb => ?_
  have := List.append_inj' hb rfl
  have hy : y = (x.1, x.2.1 + 1, -1) := by simpa using this.2.symm
  subst hy
  refine ⟨rfl, by show 0 < x.2.1 + 1; omega, ?_⟩
  simp only [kindAt]
  rw [show (x.2.1 + 1).toNat - 1 = x.2.1.toNat by omega, hs]
  simp [h6]
theorem PChain.step (hg : GP p) {m : M} {a : List Place} {x : Place} (hm : m.pl = a ++ [x]) (hx : PF p x) (h : PChain p m.pl) : match stepR p f until' m a x with
    | .go m' => PChain p m'.pl
    | .stop m' => PChain p m'.pl ∧ m'.pl = m.pl ∧ m'.did = m.did
    | .err _ => True := by
  rw [hm] at h
  unfold stepR
  split
  · rename_i m' e
    split at e
    · injection e with e; subst e; exact h.init
    · rename_i s hs
      split at e
      · rcases waited_pl (f := f) (until' := until') (m := m) (a := a) (x := x) (l := stepsOf p x.1) (s := s) with ⟨y, t, e2, e3⟩ | e2
        · rw [e2] at e; injection e with e; subst e; exact h.set e3
        · rw [e2] at e; cases e
      · split at e
        · cases e
        split at e
        · cases e
        split at e
        · cases e
        injection e with e
        subst e
        exact PChain.act hg hs hx h
  · rename_i m' e
    split at e
    · cases e
    · rename_i s hs
      split at e
      · rcases waited_pl (f := f) (until' := until') (m := m) (a := a) (x := x) (l := stepsOf p x.1) (s := s) with ⟨y, t, e2, e3⟩ | e2
        · rw [e2] at e; cases e
        · rw [e2] at e; injection e with e; subst e; exact ⟨h, by rw [hm]; rfl, rfl⟩
      · split at e
        · cases e
        split at e
        · cases e
        split at e <;> cases e
  · trivial
/-- Dids in order. -/
structure DO (from' : Int) (m : M) : Prop where
  lo : ∀ d ∈ m.did, from' ≤ d.1 ∧ d.1 ≤ m.now
  up : ∀ (i : Nat) c d, m.did[i]? = some c → m.did[i + 1]? = some d → c.1 ≤ d.1
  now : from' ≤ m.now
theorem DO.to {from' : Int} {m : M} (h : DO from' m) (t : Int) (a : List Place) (y : Place) : DO from' ((m.to t).set a y) := by
  unfold M.to M.set
  split
  · rename_i q
    exact ⟨fun d hd => ⟨(h.lo d hd).1, by have := (h.lo d hd).2; show d.1 ≤ t; omega⟩, h.up, by have := h.now; show from' ≤ t; omega⟩
  · exact ⟨h.lo, h.up, h.now⟩
theorem DO.act {from' : Int} {m : M} (h : DO from' m) (a : List Place) (x : Place) (l : List Step) (s : Step) : DO from' (act f m a x l s) := by
  unfold Go.Proofs.P6.act
  repeat' split
  all_goals first
    | exact ⟨h.lo, h.up, h.now⟩
    | skip
  refine ⟨fun d hd => ?_, fun i c d h1 h2 => ?_, h.now⟩
  · rw [List.mem_append, List.mem_singleton] at hd
    rcases hd with hd | rfl
    · exact h.lo d hd
    · exact ⟨h.now, Int.le_refl _⟩
  · have l2 := (List.getElem?_eq_some_iff.1 h2).1
    simp only [List.length_append, List.length_singleton] at l2
    simp only at h1 h2
    rw [List.getElem?_append_left (by omega)] at h1
    by_cases q : i + 1 < m.did.length
    · rw [List.getElem?_append_left q] at h2
      exact h.up i c d h1 h2
    · rw [List.getElem?_append_right (by omega), show i + 1 - m.did.length = 0 by omega] at h2
      simp at h2
      subst h2
      exact (h.lo c (List.mem_of_getElem? h1)).2
theorem DO.step {from' : Int} {m : M} {a : List Place} {x : Place} (h : DO from' m) : match stepR p f until' m a x with
    | .go m' => DO from' m'
    | .stop m' => m'.did = m.did
    | .err _ => True := by
  unfold stepR
  split
  · rename_i m' e
    split at e
    · injection e with e; subst e; exact ⟨h.lo, h.up, h.now⟩
    · rename_i s hs
      split at e
      · rcases waited_pl (f := f) (until' := until') (m := m) (a := a) (x := x) (l := stepsOf p x.1) (s := s) with ⟨y, t, e2, e3⟩ | e2
        · rw [e2] at e; injection e with e; subst e; exact h.to t a y
        · rw [e2] at e; cases e
      · split at e
        · cases e
        split at e
        · cases e
        split at e
        · cases e
        injection e with e
        subst e
        exact DO.act (m := m.tick) ⟨h.lo, h.up, h.now⟩ a x _ s
  · rename_i m' e
    split at e
    · cases e
    · rename_i s hs
      split at e
      · rcases waited_pl (f := f) (until' := until') (m := m) (a := a) (x := x) (l := stepsOf p x.1) (s := s) with ⟨y, t, e2, e3⟩ | e2
        · rw [e2] at e; cases e
        · rw [e2] at e; injection e with e; subst e; rfl
      · split at e
        · cases e
        split at e
        · cases e
        split at e <;> cases e
  · trivial
/-- What comes out right. -/
structure Right (p : List Prc) (from' until' : Int) (o : Out) : Prop where
  pf : ∀ y ∈ o.2.1, PF p y
  ci : PChain p o.2.1
  lo : ∀ d ∈ o.1, from' ≤ d.1 ∧ d.1 ≤ o.2.2.1
  up : ∀ (i : Nat) c d, o.1[i]? = some c → o.1[i + 1]? = some d → c.1 ≤ d.1
  now : from' ≤ o.2.2.1 ∧ o.2.2.1 ≤ until'
  last : o.2.1 = [] ∨ o.2.2.1 = until'
theorem runs_right (hg : GP p) {from' : Int} {m : M} {o : Out} (h : Runs p f until' m o) : Ok p until' m → PChain p m.pl → DO from' m → o.2.2.2 = 0 → Right p from' until' o := by
  induction h with
  | fin h1 => intro hO hC hD _; exact ⟨by simp, by intro k y z h; simp at h, hD.lo, hD.up, ⟨hD.now, hO.now.2.1⟩, .inl rfl⟩
  | @stop m a x m' h1 h2 =>
    intro hO hC hD _
    have hx : PF p x := hO.pl x (by rw [h1]; simp)
    have c := PChain.step hg h1 hx hC (f := f) (until' := until')
    rw [h2] at c
    have hn := hO.now
    have hDn := hD.now
    refine ⟨fun y hy => hO.pl y (by rw [← c.2.1]; exact hy), c.1, fun d hd => ?_, ?_, ⟨by show from' ≤ until'; omega, Int.le_refl _⟩, .inr rfl⟩
    · simp only [c.2.2] at hd
      have := hD.lo d hd
      exact ⟨this.1, by show d.1 ≤ until'; omega⟩
    · simp only [c.2.2]; exact hD.up
  | @err m a x e h1 h2 =>
    intro _ _ _ h
    have := stepR_err h2
    exact absurd h this
  | @go m a x m' o h1 h2 h3 ih =>
    intro hO hC hD h
    have hx : PF p x := hO.pl x (by rw [h1]; simp)
    have c := PChain.step hg h1 hx hC (f := f) (until' := until')
    have d := hD.step (p := p) (f := f) (until' := until') (a := a) (x := x)
    rw [h2] at c d
    exact ih (hO.step hg h1 h2).1 c d h
end Go.Proofs.P6
