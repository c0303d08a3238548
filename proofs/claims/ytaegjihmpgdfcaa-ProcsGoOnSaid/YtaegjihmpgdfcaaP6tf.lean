/- A procedure that is cut goes on as it would have gone on; plain Lean. -/
import Derived.Test.YtaegjihmpgdfcaaP6te
set_option linter.unusedVariables false
set_option linter.unusedSimpArgs false
namespace Go.Proofs.P6
open Go.Ex
variable {p : List Prc} {f : List Fact} {until' : Int}
theorem runs_det {m : M} {o o' : Out} (h : Runs p f until' m o) (h' : Runs p f until' m o') : o = o' := by
  induction h with
  | fin h1 => exact (h'.nil h1).symm
  | stop h1 h2 => have := h'.inv h1; rw [h2] at this; exact this.symm
  | err h1 h2 => have := h'.inv h1; rw [h2] at this; exact this.symm
  | go h1 h2 h3 ih => have := h'.inv h1; rw [h2] at this; exact ih this
/-- The same but for what was done before. -/
structure Sh (d0 : List Did) (m m2 : M) : Prop where
  pl : m2.pl = m.pl
  now : m2.now = m.now
  done : m2.done = m.done
  all : m2.all ≤ m.all
  did : m.did = d0 ++ m2.did
theorem Sh.set {d0 : List Did} {m m2 : M} (h : Sh d0 m m2) (a : List Place) (y : Place) : Sh d0 (m.set a y) (m2.set a y) := ⟨rfl, h.now, h.done, h.all, h.did⟩
theorem Sh.to {d0 : List Did} {m m2 : M} (h : Sh d0 m m2) (t : Int) : Sh d0 (m.to t) (m2.to t) := by
  unfold M.to
  rw [h.now]
  split
  · exact ⟨h.pl, rfl, rfl, h.all, h.did⟩
  · exact h
theorem Sh.waited {d0 : List Did} {m m2 : M} (h : Sh d0 m m2) (a : List Place) (x : Place) (l : List Step) (s : Step) :
    (∃ m' m2', waited f until' m a x l s = .go m' ∧ waited f until' m2 a x l s = .go m2' ∧ Sh d0 m' m2') ∨ (∃ m' m2', waited f until' m a x l s = .stop m' ∧ waited f until' m2 a x l s = .stop m2' ∧ Sh d0 m' m2') := by
  unfold Go.Proofs.P6.waited
  rw [h.now]
  split
  · split
    · exact .inr ⟨_, _, rfl, rfl, h.set _ _⟩
    · exact .inl ⟨_, _, rfl, rfl, (h.to _).set _ _⟩
  · split
    · exact .inr ⟨_, _, rfl, rfl, h.set _ _⟩
    · exact .inl ⟨_, _, rfl, rfl, (h.to _).set _ _⟩
theorem Sh.act {d0 : List Did} {m m2 : M} (h : Sh d0 m m2) (a : List Place) (x : Place) (l : List Step) (s : Step) : Sh d0 (act f m a x l s) (act f m2 a x l s) := by
  unfold Go.Proofs.P6.act
  rw [h.now]
  repeat' split
  all_goals first
    | exact h.set _ _
    | exact ⟨rfl, rfl, h.done, h.all, h.did⟩
    | exact ⟨rfl, rfl, h.done, h.all, by simp only [h.did, List.append_assoc]⟩
    | exact ⟨rfl, h.now, h.done, h.all, h.did⟩
    | exact ⟨rfl, h.now, h.done, h.all, by simp only [h.did, List.append_assoc]⟩
theorem Sh.step {d0 : List Did} {m m2 : M} (h : Sh d0 m m2) (a : List Place) (x : Place) : match stepR p f until' m a x with
    | .go m' => ∃ m2', stepR p f until' m2 a x = .go m2' ∧ Sh d0 m' m2'
    | .stop m' => ∃ m2', stepR p f until' m2 a x = .stop m2' ∧ Sh d0 m' m2'
    | .err _ => True := by
  have hd := h.done
  have ha := h.all
  cases hg : (stepsOf p x.1)[x.2.1.toNat]? with
  | none => rw [stepR_none hg, stepR_none hg]; exact ⟨_, rfl, rfl, h.now, h.done, h.all, h.did⟩
  | some s =>
    by_cases hw : 0 ≤ x.2.2
    · rw [stepR_wait hg hw, stepR_wait hg hw]
      rcases h.waited (f := f) (until' := until') a x (stepsOf p x.1) s with ⟨m', m2', e1, e2, e3⟩ | ⟨m', m2', e1, e2, e3⟩
      · rw [e1]; exact ⟨m2', e2, e3⟩
      · rw [e1]; exact ⟨m2', e2, e3⟩
    · by_cases d5 : 5000 < m.done + 1
      · rw [stepR_e17 hg hw d5]; trivial
      by_cases a2 : 200000 < m.all + 1
      · rw [stepR_e2 hg hw d5 a2]; trivial
      have ht : Sh d0 m.tick m2.tick := ⟨h.pl, h.now, by simp only [M.tick]; omega, by simp only [M.tick]; omega, h.did⟩
      have hs := ht.act (f := f) a x (stepsOf p x.1) s
      by_cases d6 : 5000 < (Go.Proofs.P6.act f m.tick a x (stepsOf p x.1) s).did.length
      · rw [stepR_did hg hw d5 a2 d6]; trivial
      rw [stepR_act hg hw d5 a2 rfl d6]
      refine ⟨_, stepR_act hg hw (by omega) (by omega) rfl ?_, hs⟩
      rw [hs.did, List.length_append] at d6
      omega
theorem Sh.runs {d0 : List Did} {m m2 : M} {o : Out} (h : Runs p f until' m o) : Sh d0 m m2 → o.2.2.2 = 0 → ∃ c, Runs p f until' m2 (c, o.2.1, o.2.2.1, 0) ∧ o.1 = d0 ++ c := by
  intro hs
  induction h generalizing m2 with
  | fin h1 => intro _; exact ⟨m2.did, by simp only; rw [← hs.now]; exact .fin (by rw [hs.pl]; exact h1), hs.did⟩
  | @stop m a x m' h1 h2 =>
    intro _
    have := hs.step (p := p) (f := f) (until' := until') a x
    rw [h2] at this
    obtain ⟨m2', e1, e2⟩ := this
    exact ⟨m2'.did, by simp only; rw [← e2.pl]; exact .stop (by rw [hs.pl]; exact h1) e1, e2.did⟩
  | err h1 h2 => intro h; exact absurd h (stepR_err h2)
  | @go m a x m' o h1 h2 h3 ih =>
    intro h0
    have := hs.step (p := p) (f := f) (until' := until') a x
    rw [h2] at this
    obtain ⟨m2', e1, e2⟩ := this
    obtain ⟨c, q1, q2⟩ := ih e2 h0
    exact ⟨c, .go (by rw [hs.pl]; exact h1) e1 q1, q2⟩
def Fb (f : List Fact) (now : Int) (x : Place) (s : Step) : Bool := decide (s.1 = 3) && (since (spansOf f s.2.1) now).2 && decide ((since (spansOf f s.2.1) now).1 ≤ x.2.2)
def Tg (f : List Fact) (now : Int) (x : Place) (s : Step) : Int := if Fb f now x s = true then (since (spansOf f s.2.1) now).1 else x.2.2
def Nx (f : List Fact) (now : Int) (x : Place) (l : List Step) (s : Step) : Place := (x.1, (if Fb f now x s = true then x.2.1 + 1 else if s.1 = 3 then labI l s.2.2.1 + 1 else x.2.1 + 1), -1)
theorem waited_eq (m : M) (a : List Place) (x : Place) (l : List Step) (s : Step) : waited f until' m a x l s = if until' < Tg f m.now x s then .stop (m.set a x) else .go ((m.to (Tg f m.now x s)).set a (Nx f m.now x l s)) := by
  unfold waited Tg Nx
  by_cases q : Fb f m.now x s = true
  · have q' := q
    unfold Fb at q'
    rw [if_pos q', if_pos q, if_pos q]
  · have q' := q
    unfold Fb at q'
    rw [if_neg q', if_neg q, if_neg q]
theorem since_none_later {l : List Span} {now cut : Int} (h : (since l now).2 = false) (hc : now ≤ cut) : (since l cut).2 = false := by
  unfold since at h ⊢
  split at h
  · cases h
  · rename_i e
    rw [List.find?_eq_none] at e
    have : l.find? (fun s => decide (cut < s.2)) = none := by
      rw [List.find?_eq_none]
      intro s hs
      have := e s hs
      simp at this ⊢
      omega
    rw [this]
theorem since_later {l : List Span} (hE : spansE l = 0) {now cut : Int} (h : (since l now).2 = true) (hc : now ≤ cut) (hl : cut < (since l now).1) : since l cut = since l now := by
  have hz : ∀ (k : Nat) a, l[k]? = some a → a.1 < a.2 := fun k a hg => (spE_zero (fe_zero hE k (List.getElem?_eq_some_iff.1 hg).1) hg).1
  unfold since at h hl ⊢
  split at h
  · rename_i s e
    rw [e] at hl
    simp only at hl
    rw [List.find?_eq_some_iff_getElem] at e
    obtain ⟨h1, k, hk, hks, hlt⟩ := e
    have hs := hz k s (by rw [List.getElem?_eq_getElem hk, hks])
    have : l.find? (fun s => decide (cut < s.2)) = some s := by
      rw [List.find?_eq_some_iff_getElem]
      refine ⟨by simp; omega, k, hk, hks, fun j hj => ?_⟩
      have := hlt j hj
      simp at this ⊢
      omega
    rw [this]
    simp only
    congr 1
    omega
  · cases h
theorem cut_same (hF : factsE f = 0) {now cut : Int} {x : Place} {s : Step} (hc : now ≤ cut) (hl : cut < Tg f now x s) : Fb f cut x s = Fb f now x s ∧ Tg f cut x s = Tg f now x s := by
  have hE := (spansOf_small hF s.2.1).2
  have key : Fb f cut x s = Fb f now x s ∧ (Fb f now x s = true → (since (spansOf f s.2.1) cut).1 = (since (spansOf f s.2.1) now).1) := by
    by_cases k3 : s.1 = 3
    case neg => unfold Fb; simp [k3]
    cases h2 : (since (spansOf f s.2.1) now).2 with
    | false =>
      have := since_none_later h2 hc
      unfold Fb
      rw [h2, this]
      simp
    | true =>
      by_cases q : cut < (since (spansOf f s.2.1) now).1
      · have := since_later hE h2 hc q
        unfold Fb
        rw [this]
        exact ⟨rfl, fun _ => rfl⟩
      · exfalso
        unfold Tg at hl
        split at hl
        · exact q hl
        · rename_i hf
          unfold Fb at hf
          rw [h2] at hf
          simp [k3] at hf
          omega
  refine ⟨key.1, ?_⟩
  unfold Tg
  rw [key.1]
  split
  · rename_i q; exact key.2 q
  · rfl
/-- The state that goes on from a cut. -/
def mc (pl : List Place) (cut : Int) : M := ⟨pl, cut, 0, 0, []⟩
theorem cut_step (hF : factsE f = 0) {m : M} {cut : Int} (hall : 0 ≤ m.all) (hc : m.now ≤ cut) (hu : cut ≤ until') {a : List Place} {x : Place} (hm : m.pl = a ++ [x]) : match stepR p f until' m a x with
    | .go m1 => (m1.now ≤ cut ∧ stepR p f cut m a x = .go m1) ∨ (stepR p f cut m a x = .stop m ∧ ∃ m1', stepR p f until' (mc m.pl cut) a x = .go m1' ∧ Sh m.did m1 m1')
    | .stop m1 => m1 = m ∧ stepR p f cut m a x = .stop m ∧ stepR p f until' (mc m.pl cut) a x = .stop (mc m.pl cut)
    | .err _ => True := by
  have hset : m.set a x = m := by unfold M.set; rw [← hm]
  have hset2 : (mc m.pl cut).set a x = mc m.pl cut := by unfold M.set mc; rw [← hm]
  cases hg : (stepsOf p x.1)[x.2.1.toNat]? with
  | none => rw [stepR_none hg, stepR_none hg]; exact .inl ⟨hc, rfl⟩
  | some s =>
    by_cases hw : 0 ≤ x.2.2
    · rw [stepR_wait hg hw, stepR_wait hg hw, stepR_wait hg hw, waited_eq, waited_eq, waited_eq]
      by_cases q : cut < Tg f m.now x s
      · obtain ⟨k1, k2⟩ := cut_same hF hc q
        have hn2 : (mc m.pl cut).now = cut := rfl
        have hNx : Nx f cut x (stepsOf p x.1) s = Nx f m.now x (stepsOf p x.1) s := by unfold Nx; rw [k1]
        rw [hn2, k2, hNx, if_pos q, hset, hset2]
        by_cases u : until' < Tg f m.now x s
        · rw [if_pos u]
          exact ⟨rfl, rfl, if_pos u⟩
        · rw [if_neg u]
          refine .inr ⟨rfl, _, if_neg u, ?_⟩
          rw [M.to_set, M.to_set, hn2, if_pos q, if_pos q, if_pos (by omega), if_pos (by omega)]
          exact ⟨rfl, rfl, rfl, hall, by simp [mc]⟩
      · rw [if_neg q, if_neg (by omega)]
        refine .inl ⟨?_, rfl⟩
        rw [M.to_set]
        simp only
        split <;> omega
    · by_cases d5 : 5000 < m.done + 1
      · rw [stepR_e17 hg hw d5]; trivial
      by_cases a2 : 200000 < m.all + 1
      · rw [stepR_e2 hg hw d5 a2]; trivial
      by_cases d6 : 5000 < (act f m.tick a x (stepsOf p x.1) s).did.length
      · rw [stepR_did hg hw d5 a2 d6]; trivial
      rw [stepR_act hg hw d5 a2 rfl d6, stepR_act hg hw d5 a2 rfl d6]
      exact .inl ⟨by rw [act_now]; exact hc, rfl⟩
theorem cut_runs (hg : GP p) (hF : factsE f = 0) {m : M} {o : Out} (h : Runs p f until' m o) {cut : Int} (hu : cut ≤ until') : Ok p until' m → m.now ≤ cut → o.2.2.2 = 0 →
    ∃ o2, Runs p f cut m o2 ∧ o2.2.2.2 = 0 ∧ ((o2.2.1 = [] ∧ o2 = o) ∨ (o2.2.1 ≠ [] ∧ ∃ c, Runs p f until' (mc o2.2.1 cut) (c, o.2.1, o.2.2.1, 0) ∧ o.1 = o2.1 ++ c)) := by
  induction h with
  | @fin m h1 => intro hO hc h0; exact ⟨_, .fin h1, rfl, .inl ⟨rfl, rfl⟩⟩
  | @stop m a x m' h1 h2 =>
    intro hO hc h0
    have := cut_step (p := p) hF hO.all.1 hc hu h1
    rw [h2] at this
    obtain ⟨rfl, e1, e2⟩ := this
    exact ⟨_, .stop h1 e1, rfl, .inr ⟨by rw [h1]; simp, [], .stop (m' := mc m'.pl cut) h1 e2, by simp⟩⟩
  | @err m a x e h1 h2 => intro _ _ h0; exact absurd h0 (stepR_err h2)
  | @go m a x m' o h1 h2 h3 ih =>
    intro hO hc h0
    have := cut_step (p := p) hF hO.all.1 hc hu h1
    rw [h2] at this
    rcases this with ⟨q1, q2⟩ | ⟨q1, m1', q2, q3⟩
    · obtain ⟨o2, r1, r2⟩ := ih (hO.step hg h1 h2).1 q1 h0
      exact ⟨o2, .go h1 q2 r1, r2⟩
    · obtain ⟨c, r1, r2⟩ := Sh.runs h3 q3 h0
      exact ⟨_, .stop h1 q1, rfl, .inr ⟨by rw [h1]; simp, c, .go (m' := m1') h1 q2 r1, r2⟩⟩
end Go.Proofs.P6
