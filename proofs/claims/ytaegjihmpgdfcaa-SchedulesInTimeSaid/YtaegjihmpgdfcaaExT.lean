/- What a command does is one thing: from a set of ends to one end. -/
import Derived.Test.YtaegjihmpgdfcaaExR
set_option linter.unusedVariables false
namespace Go.Ex
variable {P : Program} {sh : Nat → Bool}
theorem stepI_det {op : Cop} {s : St} {K : V → Hp → Nat → Option (List Nat) → Option (List Nat) → Prop} (h : stepI P op s K) : ∃ v h' nx rd wr, K v h' nx rd wr ∧ stepI P op s (fun a b c d e => a = v ∧ b = h' ∧ c = nx ∧ d = rd ∧ e = wr) := by
  cases op
  case call f xs => obtain ⟨as, r, h1, h2, h3, h4⟩ := h; exact ⟨_, _, _, _, _, h4, as, r, h1, h2, h3, rfl, rfl, rfl, rfl, rfl⟩
  case shr f xs => obtain ⟨v, h', nx', h1, h2⟩ := h; exact ⟨_, _, _, _, _, h2, v, h', nx', h1, rfl, rfl, rfl, rfl, rfl⟩
  case shq f xs => obtain ⟨v, h1, h2⟩ := h; exact ⟨_, _, _, _, _, h2, v, h1, rfl, rfl, rfl, rfl, rfl⟩
  case calv x xs =>
    simp only [stepI] at h ⊢
    split at h
    · rename_i hx
      obtain ⟨v, h', nx', h1, h2, h3⟩ := h
      exact ⟨_, _, _, _, _, h3, v, h', nx', h1, h2, rfl, rfl, rfl, rfl, rfl⟩
    · exact h.elim
  all_goals
    simp only [stepI] at h ⊢
    split at h
    · rename_i r hr
      exact ⟨_, _, _, _, _, h, rfl, rfl, rfl, rfl, rfl⟩
    · exact h.elim
theorem stepI_mono {op : Cop} {s : St} {K K' : V → Hp → Nat → Option (List Nat) → Option (List Nat) → Prop} (hk : ∀ v h nx rd wr, K v h nx rd wr → K' v h nx rd wr) (h : stepI P op s K) : stepI P op s K' := by
  cases op
  case call f xs => obtain ⟨as, r, h1, h2, h3, h4⟩ := h; exact ⟨as, r, h1, h2, h3, hk _ _ _ _ _ h4⟩
  case shr f xs => obtain ⟨v, h', nx', h1, h2⟩ := h; exact ⟨v, h', nx', h1, hk _ _ _ _ _ h2⟩
  case shq f xs => obtain ⟨v, h1, h2⟩ := h; exact ⟨v, h1, hk _ _ _ _ _ h2⟩
  case calv x xs =>
    simp only [stepI] at h ⊢
    split at h
    · obtain ⟨v, h', nx', h1, h2, h3⟩ := h; exact ⟨v, h', nx', h1, h2, hk _ _ _ _ _ h3⟩
    · exact h
  all_goals
    simp only [stepI] at h ⊢
    split at h
    · exact hk _ _ _ _ _ h
    · exact h
theorem runL_det : ∀ (l : List Ins) (s : St) (acc : List FW) {K : St → Prop}, runL P l s acc K → ∃ s', K s' ∧ runL P l s acc (· = s')
  | [], s, acc, K, h => ⟨s, h, rfl⟩
  | i :: l, s, acc, K, h => by
    unfold runL at h ⊢
    split at h
    · obtain ⟨v, h', nx, rd, wr, h1, h2⟩ := stepI_det h
      obtain ⟨s', h3, h4⟩ := runL_det l _ _ h1.2
      exact ⟨s', h3, stepI_mono (fun _ _ _ _ _ ⟨e1, e2, e3, e4, e5⟩ => by subst e1 e2 e3 e4 e5; exact ⟨h1.1, h4⟩) h2⟩
    · obtain ⟨s', h3, h4⟩ := runL_det l _ _ h
      exact ⟨s', h3, h4⟩
    · exact h.elim
theorem runN_det : ∀ (l : List Ins) (s : St) {K : St → Prop}, runN P l s K → ∃ s', K s' ∧ runN P l s (· = s')
  | [], s, K, h => ⟨s, h, rfl⟩
  | i :: l, s, K, h => by
    unfold runN at h ⊢
    split at h
    · obtain ⟨v, h', nx, rd, wr, h1, h2⟩ := stepI_det h
      obtain ⟨s', h3, h4⟩ := runN_det l _ h1
      exact ⟨s', h3, stepI_mono (fun _ _ _ _ _ ⟨e1, e2, e3, e4, e5⟩ => by subst e1 e2 e3 e4 e5; exact h4) h2⟩
    · obtain ⟨s', h3, h4⟩ := runN_det l _ h
      exact ⟨s', h3, h4⟩
    · exact h.elim
/-- Where a loop comes to, and in how many rounds. -/
inductive Reach (st : St → E → St → Prop) : St → E → St → Nat → Prop where
  | done {s e s'} : st s e s' → e ≠ .norm → Reach st s e s' 0
  | more {s s1 e s' n} : st s .norm s1 → Reach st s1 e s' n → Reach st s e s' (n + 1)
theorem wpA_det : ∀ (C : Cmd) {Q : E → St → Prop} {s : St}, wpA P C Q s → ∃ e s', Q e s' ∧ wpA P C (fun a b => a = e ∧ b = s') s := by
  intro C
  induction C with
  | skip => intro Q s h; exact ⟨_, _, h, rfl, rfl⟩
  | reg d l =>
    intro Q s h
    cases d with
    | true =>
      obtain ⟨s', h1, h2⟩ := runL_det l s [] (K := Q .norm) h
      exact ⟨.norm, s', h1, by
        simp only [wpA]
        exact (funext fun b => propext ⟨fun h => ⟨trivial, h⟩, fun h => h.2⟩ : (fun b => b = s') = fun b => (True ∧ b = s')) ▸ h2⟩
    | false =>
      obtain ⟨s', h1, h2⟩ := runN_det l s (K := Q .norm) h
      exact ⟨.norm, s', h1, by
        simp only [wpA]
        exact (funext fun b => propext ⟨fun h => ⟨trivial, h⟩, fun h => h.2⟩ : (fun b => b = s') = fun b => (True ∧ b = s')) ▸ h2⟩
  | seq a b iha ihb =>
    intro Q s h
    obtain ⟨e, s1, h1, h2⟩ := iha h
    cases e with
    | norm =>
      obtain ⟨e', s', h3, h4⟩ := ihb h1
      refine ⟨e', s', h3, wpA_mono a (fun e t he => ?_) h2⟩
      obtain ⟨rfl, rfl⟩ := he
      exact h4
    | exit i => exact ⟨_, _, h1, wpA_mono a (fun e t he => by obtain ⟨rfl, rfl⟩ := he; exact ⟨rfl, rfl⟩) h2⟩
    | ret => exact ⟨_, _, h1, wpA_mono a (fun e t he => by obtain ⟨rfl, rfl⟩ := he; exact ⟨rfl, rfl⟩) h2⟩
  | cond c a b iha ihb =>
    intro Q s h
    simp only [wpA] at h ⊢
    split at h
    · exact iha h
    · exact ihb h
    · exact h.elim
  | block id c ih =>
    intro Q s h
    obtain ⟨e, s1, h1, h2⟩ := ih h
    cases e with
    | norm => exact ⟨_, _, h1, wpA_mono c (fun e t he => by obtain ⟨rfl, rfl⟩ := he; exact ⟨rfl, rfl⟩) h2⟩
    | exit i =>
      simp only at h1
      by_cases hi : i = id
      · rw [if_pos hi] at h1
        exact ⟨_, _, h1, wpA_mono c (fun e t he => by obtain ⟨rfl, rfl⟩ := he; simp only; rw [if_pos hi]; first | exact ⟨rfl, rfl⟩ | exact ⟨trivial, trivial⟩) h2⟩
      · rw [if_neg hi] at h1
        exact ⟨_, _, h1, wpA_mono c (fun e t he => by obtain ⟨rfl, rfl⟩ := he; simp only; rw [if_neg hi]; first | exact ⟨rfl, rfl⟩ | exact ⟨trivial, trivial⟩) h2⟩
    | ret => exact ⟨_, _, h1, wpA_mono c (fun e t he => by obtain ⟨rfl, rfl⟩ := he; exact ⟨rfl, rfl⟩) h2⟩
  | loop c ih =>
    intro Q s ⟨I, μ, hI, hr⟩
    let st : St → E → St → Prop := fun s e s' => wpA P c (fun a b => a = e ∧ b = s') s
    have key : ∀ (m : Nat) (s : St), μ s ≤ m → I s → ∃ e s' n, Q e s' ∧ e ≠ .norm ∧ Reach st s e s' n := by
      intro m
      induction m with
      | zero =>
        intro s hm hI
        obtain ⟨e, s1, h1, h2⟩ := ih (hr s hI)
        cases e with
        | norm => have := h1.2; omega
        | exit i => exact ⟨_, _, 0, h1, by simp, .done h2 (by simp)⟩
        | ret => exact ⟨_, _, 0, h1, by simp, .done h2 (by simp)⟩
      | succ m ihm =>
        intro s hm hI
        obtain ⟨e, s1, h1, h2⟩ := ih (hr s hI)
        cases e with
        | norm =>
          obtain ⟨e, s', n, q1, q2, q3⟩ := ihm s1 (by have := h1.2; omega) h1.1
          exact ⟨e, s', n + 1, q1, q2, .more h2 q3⟩
        | exit i => exact ⟨_, _, 0, h1, by simp, .done h2 (by simp)⟩
        | ret => exact ⟨_, _, 0, h1, by simp, .done h2 (by simp)⟩
    obtain ⟨e, s', n, q1, q2, q3⟩ := key (μ s) s (Nat.le_refl _) hI
    refine ⟨e, s', q1, ?_⟩
    classical
    let ν : St → Nat := fun t => if h : ∃ n, Reach st t e s' n then Classical.choose (least h) else 0
    have hν : ∀ t n, Reach st t e s' n → Reach st t e s' (ν t) ∧ ν t ≤ n := by
      intro t n hn
      have hex : ∃ n, Reach st t e s' n := ⟨n, hn⟩
      simp only [ν, dif_pos hex]
      exact ⟨(Classical.choose_spec (least hex)).1, (Classical.choose_spec (least hex)).2 n hn⟩
    refine ⟨fun t => ∃ n, Reach st t e s' n, ν, ⟨n, q3⟩, fun t ⟨n, hn⟩ => ?_⟩
    have hm := (hν t n hn).1
    generalize hg : ν t = m at hm
    cases hm with
    | done h1 h2 =>
      refine wpA_mono c (fun a b hab => ?_) h1
      obtain ⟨rfl, rfl⟩ := hab
      cases a with
      | norm => exact absurd rfl h2
      | exit i => exact ⟨rfl, rfl⟩
      | ret => exact ⟨rfl, rfl⟩
    | more h1 h2 =>
      refine wpA_mono c (fun a b hab => ?_) h1
      obtain ⟨rfl, rfl⟩ := hab
      refine ⟨⟨_, h2⟩, ?_⟩
      have := (hν _ _ h2).2
      omega
  | exit id => intro Q s h; exact ⟨_, _, h, rfl, rfl⟩
  | ret => intro Q s h; exact ⟨_, _, h, rfl, rfl⟩
/-- What a function does that shares the caller's blocks, told by what holds then. -/
def SEx (P : Program) (f : Nat) (args : List V) (h : Hp) (nx : Nat) (Q : V → Hp → Nat → Prop) : Prop := ∃ v h' nx', Q v h' nx' ∧ SOk P f args h nx v h' nx'
theorem SEx.of (hm : P.follows .mixedOrders = true) {f : Nat} {C : Cmd} {ts : List Nat} {nt : Nat} (hf : compF P sh f = some (C, ts, nt)) {args : List V} (nt0 : args.length ≤ nt) {h : Hp} {nx : Nat} {Q : V → Hp → Nat → Prop}
    (hw : W P C (fun e s => endK e (Q (resV ts s.t) s.h s.nx)) ⟨initT args, h, nx⟩ ⟨⟩ ⟨⟩) : SEx P f args h nx Q := by
  obtain ⟨e, s', h1, h2⟩ := wpA_det C hw
  refine ⟨resV ts s'.t, s'.h, s'.nx, ?_, SOk.of hm hf nt0 (wpA_mono C (fun a b hab => ?_) h2)⟩
  · cases e <;> first | exact h1 | exact h1.elim
  · obtain ⟨rfl, rfl⟩ := hab
    cases a <;> first | exact ⟨rfl, rfl, rfl⟩ | exact h1.elim
theorem SEx.mono {f : Nat} {args : List V} {h : Hp} {nx : Nat} {Q Q' : V → Hp → Nat → Prop} (hs : SEx P f args h nx Q) (hq : ∀ v h' nx', Q v h' nx' → Q' v h' nx') : SEx P f args h nx Q' := by
  obtain ⟨v, h', nx', h1, h2⟩ := hs
  exact ⟨v, h', nx', hq _ _ _ h1, h2⟩
theorem shr_ex {f nx : Nat} {h : Hp} {vs : List V} {Q : V → Hp → Nat → Prop} {K : V → Hp → Nat → Option (List Nat) → Option (List Nat) → Prop} (hs : SEx P f vs h nx Q) (hK : ∀ v h' nx', Q v h' nx' → K v h' nx' none none) : shrK P f vs h nx K ⟨⟩ := by
  obtain ⟨v, h', nx', h1, h2⟩ := hs
  exact ⟨v, h', nx', h2, hK _ _ _ h1⟩
theorem shq_ex {f nx : Nat} {h : Hp} {vs : List V} {Q : V → Prop} {K : V → Hp → Nat → Option (List Nat) → Option (List Nat) → Prop} (hs : SEx P f vs h nx (fun v h' nx' => Q v ∧ h' = h ∧ nx' = nx)) (hK : ∀ v, Q v → K v h nx none (some [])) : shqK P f vs h nx K ⟨⟩ := by
  obtain ⟨v, h', nx', ⟨h1, rfl, rfl⟩, h2⟩ := hs
  exact ⟨v, h2, hK _ h1⟩
/-- What a function does that answers pure values, told by what holds then. -/
theorem OkF.ex0 (hm : P.follows .mixedOrders = true) {f : Nat} {C : Cmd} {ts : List Nat} {nt : Nat} (hf : compF P sh f = some (C, ts, nt)) {args : List V} (nt0 : args.length ≤ nt) {Q : V → Prop}
    (hw : W P C (fun e s => endK e (∃ v, expV s.h [] (resV ts s.t) = some v ∧ Q v)) ⟨initT args, none0, 0⟩ ⟨⟩ ⟨⟩) : ∃ v, Q v ∧ OkF P f args (v, []) := by
  obtain ⟨e, s', h1, h2⟩ := wpA_det C hw
  have h1' : ∃ v, expV s'.h [] (resV ts s'.t) = some v ∧ Q v := by cases e <;> first | exact h1 | exact h1.elim
  obtain ⟨v, hv, hq⟩ := h1'
  refine ⟨v, hq, OkF.of0 hm hf nt0 (wpA_mono C (fun a b hab => ?_) h2)⟩
  obtain ⟨rfl, rfl⟩ := hab
  cases a <;> first | exact hv | exact h1.elim
/-- A loop, by what gets less. -/
theorem loop_dec {C : Cmd} {Q : E → St → Prop} {s : St} (I : Nat → St → Prop) (n : Nat) (h0 : I n s) (hr : ∀ (n : Nat) (s : St), I n s → W P C (fun e s' => seqK (fun s' => ∃ m, m < n ∧ I m s') Q e s' ⟨⟩ ⟨⟩) s ⟨⟩ ⟨⟩) : LP P C Q s ⟨⟩ ⟨⟩ := by
  classical
  let ν : St → Nat := fun t => if h : ∃ n, I n t then Classical.choose (least h) else 0
  have hν : ∀ t n, I n t → I (ν t) t ∧ ν t ≤ n := by
    intro t n hn
    have hex : ∃ n, I n t := ⟨n, hn⟩
    simp only [ν, dif_pos hex]
    exact ⟨(Classical.choose_spec (least hex)).1, (Classical.choose_spec (least hex)).2 n hn⟩
  refine ⟨fun t => ∃ n, I n t, ν, ⟨n, h0⟩, fun t ⟨n, hn⟩ => ?_⟩
  refine wpA_mono C (fun e s' he => ?_) (hr _ t (hν t n hn).1)
  cases e with
  | norm =>
    obtain ⟨m, hm, hI⟩ := he
    refine ⟨⟨m, hI⟩, ?_⟩
    have := (hν s' m hI).2
    omega
  | exit j => exact he
  | ret => exact he
-- Function values.
def hasBody (P : Program) (f : Nat) : Bool := match P.funcs[f]? with
  | some fn => fn.body.isSome && decide (fn.name ≠ "runtime.NumGoroutine")
  | none => false
theorem hasBody_ok {f : Nat} (h : hasBody P f = true) : ∃ fn, P.funcs[f]? = some fn ∧ fn.body.isSome = true ∧ fn.name ≠ "runtime.NumGoroutine" := by
  unfold hasBody at h
  split at h
  · rename_i fn e
    rw [Bool.and_eq_true] at h
    exact ⟨fn, e, h.1, of_decide_eq_true h.2⟩
  · cases h
def calvK (P : Program) (x : V) (vs : List V) (h : Hp) (nx : Nat) (K : V → Hp → Nat → Option (List Nat) → Option (List Nat) → Prop) (_ : Hold K) : Prop := match x with
  | .fn f caps => ∃ v h' nx', SOk P f (vs ++ caps) h nx v h' nx' ∧ (∃ fn, P.funcs[f]? = some fn ∧ fn.body.isSome = true ∧ fn.name ≠ "runtime.NumGoroutine") ∧ K v h' nx' none none
  | _ => False
@[simp] theorem step_calv {x : X} {xs : List X} {s : St} {K : V → Hp → Nat → Option (List Nat) → Option (List Nat) → Prop} : SI P (.calv x xs) s K ⟨⟩ ⟨⟩ = calvK P (X.ev s.t x) (argsV s.t xs) s.h s.nx K ⟨⟩ := by
  rw [← argsV_eq]; rfl
theorem calv_ex {f nx : Nat} {h : Hp} {vs caps : List V} {Q : V → Hp → Nat → Prop} {K : V → Hp → Nat → Option (List Nat) → Option (List Nat) → Prop} (hb : hasBody P f = true) (hs : SEx P f (vs ++ caps) h nx Q) (hK : ∀ v h' nx', Q v h' nx' → K v h' nx' none none) : calvK P (.fn f caps) vs h nx K ⟨⟩ := by
  obtain ⟨v, h', nx', h1, h2⟩ := hs
  exact ⟨v, h', nx', h2, hasBody_ok hb, hK _ _ _ h1⟩
/-- Answers this, and leaves what there was. -/
def Quiet (v : V) (h : Hp) (nx : Nat) : V → Hp → Nat → Prop := fun v' h' nx' => v' = v ∧ nx ≤ nx' ∧ ∀ j, j < nx → h' j = h j
end Go.Ex
