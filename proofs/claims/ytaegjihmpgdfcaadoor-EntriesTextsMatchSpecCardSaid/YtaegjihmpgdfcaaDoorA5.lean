/- Lines of procedures in plain Lean: a step is read as it was written, and the line of what was read is the line; Texts of procedures in plain Lean: they come back; Lines and texts of schedules in plain Lean: they come back; What strings.SplitN, CutPrefix and Join answer, in the words of the texts of chapter 6; Lines joined: what the texts of chapter 6 are made of. -/
import Derived.Test.YtaegjihmpgdfcaaDoorA4
import Derived.Lib.Join
import Derived.Lib.ItoaLen
section
set_option linter.unusedVariables false
set_option linter.unusedSimpArgs false
set_option maxRecDepth 10000
set_option maxHeartbeats 8000000
namespace Go.Proofs.P4
open Go.Ex
/-- Bytes from 33 to 126, at least one. -/
def wdC (c : UInt8) : Bool := decide (33 ≤ c.toNat) && decide (c.toNat ≤ 126)
def wordB (s : List UInt8) : Bool := s.all wdC && !decide (s = [])
theorem word_no {s : List UInt8} (h : wordB s = true) : (32 : UInt8) ∉ s ∧ (10 : UInt8) ∉ s := by
  simp only [wordB, Bool.and_eq_true, List.all_eq_true] at h
  exact ⟨fun q => by have := h.1 _ q; simp [wdC] at this, fun q => by have := h.1 _ q; simp [wdC] at this⟩
theorem plain_no {s : List UInt8} (h : plain s = true) : (10 : UInt8) ∉ s := by
  simp only [plain, Bool.and_eq_true, List.all_eq_true] at h
  exact fun q => by have := h.1 _ q; simp [plC] at this
theorem nm_word {s : List UInt8} (h : nm s = true) : wordB s = true := by
  simp only [nm, Bool.and_eq_true, List.all_eq_true] at h
  obtain ⟨⟨h1, -⟩, h2⟩ := h
  simp only [wordB, Bool.and_eq_true, List.all_eq_true, Bool.not_eq_true', decide_eq_false_iff_not]
  refine ⟨fun c hc => ?_, fun q => by subst q; cases h2⟩
  have := h1 c hc
  simp only [nmC, wdC, Bool.or_eq_true, Bool.and_eq_true, decide_eq_true_eq] at this ⊢
  omega
theorem cmd_plain {s : List UInt8} (h : cmd s = true) : plain s = true := by
  simp only [cmd, Bool.and_eq_true] at h
  exact h.1.1.1
theorem itoa_word {n : Int} (h : 0 ≤ n) : wordB (Lib.itoa n) = true := by
  obtain ⟨k, rfl⟩ := Int.eq_ofNat_of_zero_le h
  rw [Lib.itoa_nonneg]
  simp only [wordB, Bool.and_eq_true, List.all_eq_true, Bool.not_eq_true', decide_eq_false_iff_not]
  refine ⟨fun c hc => ?_, fun q => ?_⟩
  · have := dd_bytes k c hc
    simp only [wdC, Bool.and_eq_true, decide_eq_true_eq]
    omega
  · have := Lib.decDigits_length k
    have := Lib.nDigits_pos k
    rw [q] at *
    simp at *
    omega
/-- Words with a blank between any two. -/
def jw : List (List UInt8) → List UInt8
  | [] => []
  | [a] => a
  | a :: b :: r => a ++ 32 :: jw (b :: r)
theorem words_jw : ∀ {w : List (List UInt8)}, w ≠ [] → (∀ a ∈ w, (32 : UInt8) ∉ a) → words (jw w) = w
  | [], h, _ => absurd rfl h
  | [a], _, h => words_one (h a (by simp))
  | a :: b :: r, _, h => by
    rw [jw, words_cons (h a (by simp)), words_jw (by simp) fun x hx => h x (List.mem_cons_of_mem _ hx)]
theorem jw_words : ∀ (n : Nat) (s : List UInt8), s.length ≤ n → jw (words s) = s
  | n, s, hn => by
    rcases words_eq _ s (Nat.le_refl _) with ⟨a, h, rfl⟩ | ⟨a, t, r, h, h2, _⟩
    · rw [h]; rfl
    · match n, hn with
      | 0, hn =>
        have : s = [] := List.length_eq_zero_iff.1 (by omega)
        rw [this] at h2
        cases a <;> cases h2
      | n + 1, hn =>
        have ht : t.length ≤ n := by
          have := congrArg List.length h2
          rw [List.length_append, List.length_cons] at this
          omega
        have ih := jw_words n t ht
        rw [h]
        cases hw : words t with
        | nil => exact absurd hw (words_nil t)
        | cons b r2 => rw [jw, ← hw, ih, h2]
abbrev sSend : List UInt8 := [115, 101, 110, 100]
abbrev sWait : List UInt8 := [119, 97, 105, 116]
abbrev sAwait : List UInt8 := [97, 119, 97, 105, 116]
abbrev sIf : List UInt8 := [105, 102]
abbrev sUnless : List UInt8 := [117, 110, 108, 101, 115, 115]
abbrev sGo : List UInt8 := [103, 111]
abbrev sCall : List UInt8 := [99, 97, 108, 108]
abbrev sEnd : List UInt8 := [101, 110, 100]
abbrev sLabel : List UInt8 := [108, 97, 98, 101, 108]
abbrev sProc : List UInt8 := [112, 114, 111, 99]
/-- A step as a line. -/
def lnS (x : Step) : List UInt8 :=
  if x.1 = 1 then sSend ++ 32 :: x.2.1 else if x.1 = 2 then jw [sWait, Lib.itoa x.2.2.2.1] else if x.1 = 3 then jw [sAwait, x.2.1, Lib.itoa x.2.2.2.1, x.2.2.1]
  else if x.1 = 4 then jw [if x.2.2.2.2 = true then sUnless else sIf, x.2.1, x.2.2.1] else if x.1 = 5 then jw [sGo, x.2.2.1] else if x.1 = 6 then jw [sCall, x.2.1] else if x.1 = 8 then jw [sLabel, x.2.2.1] else sEnd
def z5 : Step := (0, [], [], 0, false)
/-- What the words of a line say. -/
def wS : List (List UInt8) → Step × Bool
  | [a] => if a = sEnd then ((7, [], [], 0, false), true) else (z5, false)
  | [a, b] => if a = sWait then ((2, [], [], (digV b 13).1, false), (digV b 13).2) else if a = sGo then ((5, [], b, 0, false), true) else if a = sCall then ((6, b, [], 0, false), true) else if a = sLabel then ((8, [], b, 0, false), true) else (z5, false)
  | [a, b, c] => if a = sIf then ((4, b, c, 0, false), true) else if a = sUnless then ((4, b, c, 0, true), true) else (z5, false)
  | [a, b, c, d] => if a = sAwait then ((3, b, d, (digV c 13).1, false), (digV c 13).2) else (z5, false)
  | _ => (z5, false)
/-- What a line of a step says. -/
def stIn (l : List UInt8) : Step × Bool :=
  if sSend ++ [32] <+: l then ((1, l.drop 5, [], 0, false), plain (l.drop 5)) else if (words l).all wordB = true then wS (words l) else (z5, false)
theorem send_pre (r : List UInt8) : sSend ++ [32] <+: sSend ++ 32 :: r := ⟨r, rfl⟩
theorem not_send {w : List UInt8} {r : List UInt8} (h : (32 : UInt8) ∉ w) (hn : w ≠ sSend) : ¬ sSend ++ [32] <+: w ++ r → True := fun _ => trivial
/-- A line of words that does not begin with 'send' is no line of 'send'. -/
theorem pre_words {a : List UInt8} {w : List (List UInt8)} (ha : (32 : UInt8) ∉ a) (hn : a ≠ sSend) : ¬ sSend ++ [32] <+: jw (a :: w) := by
  rintro ⟨t, ht⟩
  have h1 : words (sSend ++ 32 :: t) = sSend :: words t := words_cons (by decide)
  have h2 : sSend ++ 32 :: t = jw (a :: w) := by rw [← ht]; simp
  cases w with
  | nil =>
    rw [jw] at h2
    exact ha (by rw [← h2]; simp)
  | cons b r =>
    rw [jw] at h2
    have h3 : words (a ++ 32 :: jw (b :: r)) = a :: words (jw (b :: r)) := words_cons ha
    rw [← h2, h1] at h3
    injection h3 with h3 _
    exact hn h3.symm
theorem stIn_words {a : List UInt8} {w : List (List UInt8)} (hn : a ≠ sSend) (h : ∀ x ∈ a :: w, wordB x = true) : stIn (jw (a :: w)) = wS (a :: w) := by
  have h32 : ∀ x ∈ a :: w, (32 : UInt8) ∉ x := fun x hx => (word_no (h x hx)).1
  have hw : words (jw (a :: w)) = a :: w := words_jw (by simp) h32
  unfold stIn
  rw [if_neg (pre_words (h32 a (by simp)) hn), hw, if_pos (List.all_eq_true.2 h)]
theorem jw_no {w : List (List UInt8)} (h : ∀ x ∈ w, (10 : UInt8) ∉ x) : (10 : UInt8) ∉ jw w := by
  induction w with
  | nil => simp [jw]
  | cons a r ih =>
    cases r with
    | nil => exact h a (by simp)
    | cons b r =>
      rw [jw]
      intro q
      rcases List.mem_append.1 q with q | q
      · exact h a (by simp) q
      · rcases List.mem_cons.1 q with q | q
        · cases q
        · exact ih (fun x hx => h x (List.mem_cons_of_mem _ hx)) q
theorem stIn_fwd {x : Step} (h : stepE x = 0) : stIn (lnS x) = (x, true) ∧ (10 : UInt8) ∉ lnS x := by
  obtain ⟨k, t, la, n, nt⟩ := x
  unfold stepE at h
  simp only at h
  split at h
  · cases h
  split at h
  · cases h
  split at h
  · cases h
  split at h
  · cases h
  split at h
  · cases h
  rename_i h1 h2 h3 h4 h5
  have hk : k = 1 ∨ k = 2 ∨ k = 3 ∨ k = 4 ∨ k = 5 ∨ k = 6 ∨ k = 7 ∨ k = 8 := by
    simp [inB] at h1
    omega
  have two : ∀ {a b : List UInt8}, a ≠ sSend → wordB a = true → wordB b = true → stIn (jw [a, b]) = wS [a, b] ∧ (10 : UInt8) ∉ jw [a, b] := fun {a b} hn ha hb => ⟨stIn_words hn (by simp [ha, hb]), jw_no (by simp [(word_no ha).2, (word_no hb).2])⟩
  have three : ∀ {a b c : List UInt8}, a ≠ sSend → wordB a = true → wordB b = true → wordB c = true → stIn (jw [a, b, c]) = wS [a, b, c] ∧ (10 : UInt8) ∉ jw [a, b, c] := fun {a b c} hn ha hb hc => ⟨stIn_words hn (by simp [ha, hb, hc]), jw_no (by simp [(word_no ha).2, (word_no hb).2, (word_no hc).2])⟩
  have four : ∀ {a b c d : List UInt8}, a ≠ sSend → wordB a = true → wordB b = true → wordB c = true → wordB d = true → stIn (jw [a, b, c, d]) = wS [a, b, c, d] ∧ (10 : UInt8) ∉ jw [a, b, c, d] := fun {a b c d} hn ha hb hc hd => ⟨stIn_words hn (by simp [ha, hb, hc, hd]), jw_no (by simp [(word_no ha).2, (word_no hb).2, (word_no hc).2, (word_no hd).2])⟩
  have dg : ∀ {n : Int}, 1 ≤ n → n ≤ 1000000000 → digV (Lib.itoa n) 13 = (n, true) := fun {n} h1 h2 => digV_itoa (k := 12) (by omega) (by omega)
  rcases hk with rfl | rfl | rfl | rfl | rfl | rfl | rfl | rfl <;> simp [formB, txB, nB, laB, inB] at h2 h3 h4 h5
  · obtain ⟨⟨⟨rfl, rfl⟩, rfl⟩, hc⟩ := h2
    have e : lnS (1, t, [], 0, false) = sSend ++ 32 :: t := rfl
    rw [e]
    have hp := cmd_plain hc
    refine ⟨?_, fun q => ?_⟩
    · unfold stIn
      rw [if_pos (send_pre t), show (sSend ++ 32 :: t).drop 5 = t from rfl, hp]
    · rcases List.mem_append.1 q with q | q
      · revert q; decide
      · rcases List.mem_cons.1 q with q | q
        · cases q
        · exact plain_no hp q
  · obtain ⟨⟨rfl, rfl⟩, rfl⟩ := h2
    have e : lnS (2, [], [], n, false) = jw [sWait, Lib.itoa n] := rfl
    obtain ⟨q1, q2⟩ := two (a := sWait) (b := Lib.itoa n) (by decide) (by decide) (itoa_word (by omega))
    rw [e, q1]
    refine ⟨?_, q2⟩
    simp only [wS, dg h4.1 h4.2]
    rfl
  · subst h2
    have e : lnS (3, t, la, n, false) = jw [sAwait, t, Lib.itoa n, la] := rfl
    obtain ⟨q1, q2⟩ := four (a := sAwait) (b := t) (c := Lib.itoa n) (d := la) (by decide) (by decide) (nm_word h3) (itoa_word (by omega)) (nm_word h5)
    rw [e, q1]
    refine ⟨?_, q2⟩
    simp only [wS, dg h4.1 h4.2]
    rfl
  · subst h2
    cases nt with
    | true =>
      have e : lnS (4, t, la, 0, true) = jw [sUnless, t, la] := rfl
      obtain ⟨q1, q2⟩ := three (a := sUnless) (b := t) (c := la) (by decide) (by decide) (nm_word h3) (nm_word h5)
      rw [e, q1]
      exact ⟨rfl, q2⟩
    | false =>
      have e : lnS (4, t, la, 0, false) = jw [sIf, t, la] := rfl
      obtain ⟨q1, q2⟩ := three (a := sIf) (b := t) (c := la) (by decide) (by decide) (nm_word h3) (nm_word h5)
      rw [e, q1]
      exact ⟨rfl, q2⟩
  · obtain ⟨⟨rfl, rfl⟩, rfl⟩ := h2
    have e : lnS (5, [], la, 0, false) = jw [sGo, la] := rfl
    obtain ⟨q1, q2⟩ := two (a := sGo) (b := la) (by decide) (by decide) (nm_word h5)
    rw [e, q1]
    exact ⟨rfl, q2⟩
  · obtain ⟨⟨rfl, rfl⟩, rfl⟩ := h2
    have e : lnS (6, t, [], 0, false) = jw [sCall, t] := rfl
    obtain ⟨q1, q2⟩ := two (a := sCall) (b := t) (by decide) (by decide) (nm_word h3)
    rw [e, q1]
    exact ⟨rfl, q2⟩
  · obtain ⟨⟨⟨rfl, rfl⟩, rfl⟩, rfl⟩ := h2
    have e : lnS (7, [], [], 0, false) = jw [sEnd] := rfl
    rw [e, stIn_words (a := sEnd) (w := []) (by decide) (by decide)]
    exact ⟨rfl, by decide⟩
  · obtain ⟨⟨rfl, rfl⟩, rfl⟩ := h2
    have e : lnS (8, [], la, 0, false) = jw [sLabel, la] := rfl
    obtain ⟨q1, q2⟩ := two (a := sLabel) (b := la) (by decide) (by decide) (nm_word h5)
    rw [e, q1]
    exact ⟨rfl, q2⟩
/-- The line of what was read is the line. -/
theorem stIn_back {l : List UInt8} {x : Step} (h : stIn l = (x, true)) : lnS x = l := by
  unfold stIn at h
  split at h
  · rename_i q
    obtain ⟨t, rfl⟩ := q
    simp only [Prod.mk.injEq] at h
    rw [← h.1]
    simp [lnS]
  split at h
  · have hj := jw_words _ l (Nat.le_refl _)
    generalize words l = w at *
    rw [← hj]
    clear hj
    unfold wS at h
    split at h
    · split at h
      · rename_i a q
        subst q
        simp only [Prod.mk.injEq, and_true] at h
        rw [← h]
        rfl
      · simp [z5] at h
    · rename_i a b _
      split at h
      · rename_i q
        subst q
        simp only [Prod.mk.injEq] at h
        rw [← h.1]
        show jw [sWait, Lib.itoa (digV b 13).1] = _
        rw [digV_back h.2]
      split at h
      · rename_i q
        subst q
        simp only [Prod.mk.injEq, and_true] at h
        rw [← h]
        rfl
      split at h
      · rename_i q
        subst q
        simp only [Prod.mk.injEq, and_true] at h
        rw [← h]
        rfl
      split at h
      · rename_i q
        subst q
        simp only [Prod.mk.injEq, and_true] at h
        rw [← h]
        rfl
      · simp [z5] at h
    · rename_i a b c _
      split at h
      · rename_i q
        subst q
        simp only [Prod.mk.injEq, and_true] at h
        rw [← h]
        rfl
      split at h
      · rename_i q
        subst q
        simp only [Prod.mk.injEq, and_true] at h
        rw [← h]
        rfl
      · simp [z5] at h
    · rename_i a b c d _
      split at h
      · rename_i q
        subst q
        simp only [Prod.mk.injEq] at h
        rw [← h.1]
        show jw [sAwait, b, Lib.itoa (digV c 13).1, d] = _
        rw [digV_back h.2]
      · simp [z5] at h
    · simp [z5] at h
  · simp [z5] at h
end Go.Proofs.P4
end
section
set_option linter.unusedVariables false
set_option linter.unusedSimpArgs false
set_option maxRecDepth 10000
set_option maxHeartbeats 8000000
namespace Go.Proofs.P4
open Go.Ex
/-- A step is put behind the last procedure's. -/
def addS (ps : List Prc) (x : Step) : List Prc := ps.dropLast ++ [((ps.getLast?.getD ([], [])).1, (ps.getLast?.getD ([], [])).2 ++ [x])]
theorem addS_snoc (ps : List Prc) (q : Prc) (x : Step) : addS (ps ++ [q]) x = ps ++ [(q.1, q.2 ++ [x])] := by
  unfold addS
  rw [List.dropLast_concat, List.getLast?_concat]
  rfl
/-- A line of procedures. -/
def stP (line : List UInt8) (ps : List Prc) : List Prc × Bool :=
  if sProc ++ [32] <+: line then (ps ++ [(line.drop 5, [])], wordB (line.drop 5)) else if ps = [] then (ps, false) else (addS ps (stIn line).1, (stIn line).2)
def lnN (n : List UInt8) : List UInt8 := sProc ++ 32 :: n
/-- Lines, each with its end. -/
def txL (ls : List (List UInt8)) : List UInt8 := ls.flatMap fun a => a ++ [10]
def txP (p : Prc) : List UInt8 := txL (lnN p.1 :: p.2.map lnS)
def PT (ps : List Prc) : List UInt8 := ps.flatMap txP
theorem txL_cons (a : List UInt8) (ls : List (List UInt8)) : txL (a :: ls) = a ++ 10 :: txL ls := by simp [txL]
theorem txL_app (a b : List (List UInt8)) : txL (a ++ b) = txL a ++ txL b := by simp [txL]
theorem rdG_line {β : Type} {st : List UInt8 → β → β × Bool} {a r : List UInt8} {b b' : β} {f : Nat} {n : Int} (h1 : (10 : UInt8) ∉ a) (h2 : st a b = (b', true)) : rdG st (f + 1) (a ++ 10 :: r) n b = rdG st f r (n + 1) b' := by
  rw [rdG, if_neg (by simp), ib_hit _ _ _ h1, if_neg (by omega), Int.toNat_natCast, List.take_left, h2, if_pos rfl]
  congr 1
  rw [← List.drop_drop, List.drop_left]
  rfl
theorem name_line {n : List UInt8} (h : nm n = true) (ps : List Prc) : stP (lnN n) ps = (ps ++ [(n, [])], true) ∧ (10 : UInt8) ∉ lnN n := by
  have hw := nm_word h
  refine ⟨?_, fun q => ?_⟩
  · unfold stP
    rw [if_pos ⟨n, by simp [lnN]⟩, show (lnN n).drop 5 = n from rfl, hw]
  · rcases List.mem_append.1 q with q | q
    · revert q; decide
    · rcases List.mem_cons.1 q with q | q
      · cases q
      · exact (word_no hw).2 q
/-- A step's line is no procedure's. -/
theorem not_proc {x : Step} (h : stepE x = 0) : ¬ sProc ++ [32] <+: lnS x := by
  rintro ⟨t, ht⟩
  have h1 := (stIn_fwd h).1
  rw [← ht] at h1
  have hp : ¬ sSend ++ [32] <+: sProc ++ [32] ++ t := by
    rintro ⟨u, hu⟩
    have := congrArg (fun l => l[0]?) hu
    simp at this
  unfold stIn at h1
  rw [if_neg hp] at h1
  have hw : words (sProc ++ [32] ++ t) = sProc :: words t := by
    rw [List.append_assoc]
    exact words_cons (by decide)
  rw [hw] at h1
  split at h1
  · unfold wS at h1
    split at h1 <;> rename_i heq <;> first
      | (injection heq with e1 e2; subst e1; simp [z5] at h1)
      | (simp [z5] at h1)
  · simp [z5] at h1
theorem step_line {x : Step} (h : stepE x = 0) (ps : List Prc) (q : Prc) : stP (lnS x) (ps ++ [q]) = (ps ++ [(q.1, q.2 ++ [x])], true) := by
  unfold stP
  rw [if_neg (not_proc h), if_neg (by simp), (stIn_fwd h).1, addS_snoc]
theorem steps_read : ∀ (l : List Step) (r : List UInt8) (ps : List Prc) (q : Prc) (f : Nat) (n : Int), (∀ s ∈ l, stepE s = 0) → (txL (l.map lnS) ++ r).length < f → 0 < n → ∃ f' n', r.length < f' ∧ 0 < n' ∧ rdG stP f (txL (l.map lnS) ++ r) n (ps ++ [q]) = rdG stP f' r n' (ps ++ [(q.1, q.2 ++ l)])
  | [], r, ps, q, f, n, _, hf, hn => ⟨f, n, hf, hn, by simp [txL]⟩
  | x :: l, r, ps, q, f, n, h, hf, hn => by
    rw [List.map_cons, txL_cons] at *
    match f, hf with
    | 0, hf => omega
    | f + 1, hf =>
      have hx := h x (by simp)
      obtain ⟨f', n', h1, h2, h3⟩ := steps_read l r ps (q.1, q.2 ++ [x]) f (n + 1) (fun s hs => h s (List.mem_cons_of_mem _ hs)) (by simp only [List.length_append, List.length_cons] at hf ⊢; omega) (by omega)
      refine ⟨f', n', h1, h2, ?_⟩
      rw [List.append_assoc, List.cons_append, rdG_line (stIn_fwd hx).2 (step_line hx ps q), h3]
      simp
theorem procs_read : ∀ (l : List Prc) (ps : List Prc) (f : Nat) (n : Int), (∀ p ∈ l, nm p.1 = true ∧ ∀ s ∈ p.2, stepE s = 0) → (PT l).length < f → 0 < n → rdG stP f (PT l) n ps = (ps ++ l, 0)
  | [], ps, f, n, _, hf, _ => by
    match f, hf with
    | 0, hf => omega
    | f + 1, hf => simp [PT, rdG]
  | p :: l, ps, f, n, h, hf, hn => by
    obtain ⟨h1, h2⟩ := h p (by simp)
    have e : PT (p :: l) = lnN p.1 ++ 10 :: (txL (p.2.map lnS) ++ PT l) := by simp [PT, txP, txL_cons]
    rw [e] at hf ⊢
    match f, hf with
    | 0, hf => omega
    | f + 1, hf =>
      obtain ⟨a, b⟩ := name_line h1 ps
      rw [rdG_line b a]
      obtain ⟨f', n', g1, g2, g3⟩ := steps_read p.2 (PT l) ps (p.1, []) f (n + 1) h2 (by simp only [List.length_append, List.length_cons] at hf ⊢; omega) (by omega)
      rw [g3, procs_read l _ f' n' (fun q hq => h q (List.mem_cons_of_mem _ hq)) g1 g2]
      simp
theorem PT_snoc (ps : List Prc) (q : Prc) : PT (ps ++ [q]) = PT ps ++ txP q := by simp [PT]
/-- A line that is taken is what the text grows by. -/
theorem stP_back {line : List UInt8} {ps ps' : List Prc} (h : stP line ps = (ps', true)) : PT ps' = PT ps ++ (line ++ [10]) := by
  unfold stP at h
  split at h
  · rename_i q
    obtain ⟨t, rfl⟩ := q
    simp only [Prod.mk.injEq] at h
    rw [← h.1, PT_snoc]
    simp [txP, txL, lnN]
  split at h
  · simp at h
  · rename_i q1 q2
    simp only [Prod.mk.injEq] at h
    obtain ⟨ps0, q, rfl⟩ : ∃ a q, ps = a ++ [q] := ⟨ps.dropLast, ps.getLast q2, (List.dropLast_concat_getLast q2).symm⟩
    have hb := stIn_back (l := line) (x := (stIn line).1) (Prod.ext rfl h.2)
    rw [addS_snoc] at h
    rw [← h.1, PT_snoc, PT_snoc]
    simp [txP, txL, hb]
theorem rdP_back : ∀ (f : Nat) (text : List UInt8) (n : Int) (b b' : List Prc), 0 < n → rdG stP f text n b = (b', 0) → PT b' = PT b ++ text
  | 0, text, n, b, b', hn, h => by
    rw [rdG] at h
    injection h with _ h2
    omega
  | f + 1, text, n, b, b', hn, h => by
    rw [rdG] at h
    split at h
    · rename_i q
      injection h with h1 _
      rw [q, ← h1, List.append_nil]
    split at h
    · injection h with _ h2
      omega
    rename_i q1 q2
    obtain ⟨i, hi⟩ := Int.eq_ofNat_of_zero_le (show 0 ≤ Lib.indexByte text 10 by omega)
    rw [hi, Int.toNat_natCast] at h
    split at h
    · rename_i q3
      have h1 := stP_back (ps' := (stP (text.take i) b).1) (by rw [← q3])
      have h2 := rdP_back f _ _ _ _ (by omega) h
      rw [h2, h1, List.append_assoc]
      congr 1
      have := ib_cut text 10 i hi
      rw [List.append_assoc]
      exact this.symm
    · injection h with _ h2
      omega
def textP (E : List Prc → Int) (l : List Prc) : List UInt8 × Int := if E l ≠ 0 then ([], E l) else if 300000 < (PT l).length then ([], 2) else (PT l, 0)
def readP (E : List Prc → Int) (text : List UInt8) : List Prc × Int × Int :=
  if 300000 < text.length then ([], 0, 2) else
  if 0 < (rdG stP (text.length + 1) text 1 []).2 then ([], (rdG stP (text.length + 1) text 1 []).2, 10) else
  if E (rdG stP (text.length + 1) text 1 []).1 ≠ 0 then ([], 0, E (rdG stP (text.length + 1) text 1 []).1) else ((rdG stP (text.length + 1) text 1 []).1, 0, 0)
theorem textP_read {E : List Prc → Int} (hE : ∀ l, E l = 0 → ∀ p ∈ l, nm p.1 = true ∧ ∀ s ∈ p.2, stepE s = 0) {l : List Prc} {s : List UInt8} (h : textP E l = (s, 0)) : readP E s = (l, 0, 0) := by
  unfold textP at h
  split at h
  · rename_i q
    simp only [Prod.mk.injEq] at h
    exact absurd h.2 q
  rename_i q
  split at h
  · simp at h
  rename_i q2
  simp only [Prod.mk.injEq, and_true] at h
  have he : E l = 0 := Classical.not_not.1 q
  have hr := procs_read l [] ((PT l).length + 1) 1 (hE l he) (by omega) (by decide)
  rw [List.nil_append] at hr
  rw [← h]
  unfold readP
  rw [if_neg q2, hr, if_neg (by simp), if_neg q]
theorem readP_text {E : List Prc → Int} {l : List Prc} {text : List UInt8} {n : Int} (h : readP E text = (l, n, 0)) : textP E l = (text, 0) := by
  unfold readP at h
  split at h
  · simp at h
  split at h
  · simp at h
  split at h
  · rename_i q
    simp only [Prod.mk.injEq] at h
    exact absurd h.2.2 q
  rename_i q1 q2 q3
  simp only [Prod.mk.injEq] at h
  have hz : ∀ (f : Nat) (text : List UInt8) (n : Int) (b : List Prc), 0 ≤ n → 0 ≤ (rdG stP f text n b).2 := by
    intro f
    induction f with
    | zero => intro text n b h; exact h
    | succ f ih =>
      intro text n b h
      rw [rdG]
      split
      · simp
      split
      · exact h
      split
      · exact ih _ _ _ (by omega)
      · exact h
  have hz := hz (text.length + 1) text 1 [] (by decide)
  have hr : rdG stP (text.length + 1) text 1 [] = (l, 0) := Prod.ext h.1 (by simp only; omega)
  have hb := rdP_back _ _ _ _ _ (by decide) hr
  rw [show PT [] = [] from rfl, List.nil_append] at hb
  rw [hr] at q3
  unfold textP
  rw [if_neg q3, hb, if_neg q1]
end Go.Proofs.P4
end
section
set_option linter.unusedVariables false
set_option linter.unusedSimpArgs false
set_option maxRecDepth 10000
set_option maxHeartbeats 8000000
namespace Go.Proofs.P4
open Go.Ex
/-- What stands before the first blank, and behind it. -/
def cutB (s : List UInt8) : Option (List UInt8 × List UInt8) := if Lib.indexByte s 32 < 0 then none else some (s.take (Lib.indexByte s 32).toNat, s.drop ((Lib.indexByte s 32).toNat + 1))
theorem cutB_at {a r : List UInt8} (h : (32 : UInt8) ∉ a) : cutB (a ++ 32 :: r) = some (a, r) := by
  unfold cutB
  rw [ib_hit _ _ _ h, if_neg (by omega), Int.toNat_natCast, List.take_left, ← List.drop_drop, List.drop_left]
  rfl
theorem cutB_eq {s a r : List UInt8} (h : cutB s = some (a, r)) : s = a ++ 32 :: r := by
  unfold cutB at h
  split at h
  · cases h
  rename_i q
  obtain ⟨i, hi⟩ := Int.eq_ofNat_of_zero_le (show 0 ≤ Lib.indexByte s 32 by omega)
  rw [hi, Int.toNat_natCast] at h
  injection h with h
  injection h with h1 h2
  rw [← h1, ← h2]
  exact ib_cut s 32 i hi
abbrev W5 := List UInt8 × List UInt8 × List UInt8 × List UInt8 × List UInt8
/-- Four words and what is behind them. -/
def w5 (s : List UInt8) : Option W5 := (cutB s).bind fun p => (cutB p.2).bind fun q => (cutB q.2).bind fun r => (cutB r.2).map fun t => (p.1, q.1, r.1, t.1, t.2)
def jn5 (w : W5) : List UInt8 := w.1 ++ 32 :: (w.2.1 ++ 32 :: (w.2.2.1 ++ 32 :: (w.2.2.2.1 ++ 32 :: w.2.2.2.2)))
theorem w5_at {w : W5} (h1 : (32 : UInt8) ∉ w.1) (h2 : (32 : UInt8) ∉ w.2.1) (h3 : (32 : UInt8) ∉ w.2.2.1) (h4 : (32 : UInt8) ∉ w.2.2.2.1) : w5 (jn5 w) = some w := by
  unfold w5 jn5
  rw [cutB_at h1, Option.bind_some, cutB_at h2, Option.bind_some, cutB_at h3, Option.bind_some, cutB_at h4]
  rfl
theorem w5_eq {s : List UInt8} {w : W5} (h : w5 s = some w) : s = jn5 w := by
  unfold w5 at h
  rw [Option.bind_eq_some_iff] at h
  obtain ⟨p, h1, h⟩ := h
  rw [Option.bind_eq_some_iff] at h
  obtain ⟨q, h2, h⟩ := h
  rw [Option.bind_eq_some_iff] at h
  obtain ⟨r, h3, h⟩ := h
  rw [Option.map_eq_some_iff] at h
  obtain ⟨t, h4, rfl⟩ := h
  rw [cutB_eq (a := p.1) (r := p.2) h1, cutB_eq (s := p.2) (a := q.1) (r := q.2) h2, cutB_eq (s := q.2) (a := r.1) (r := r.2) h3, cutB_eq (s := r.2) (a := t.1) (r := t.2) h4]
  rfl
def dsh (s : List UInt8) : List UInt8 := if s = [] then [45] else s
def rdh (s : List UInt8) : List UInt8 := if s = [45] then [] else s
def cnd (x : Entry) : List UInt8 := if x.2.2.2.2.2 = true then 33 :: x.2.2.2.2.1 else dsh x.2.2.2.2.1
def w5E (x : Entry) : W5 := (Lib.itoa x.1, Lib.itoa x.2.1, dsh x.2.2.2.1, cnd x, x.2.2.1)
def lnE (x : Entry) : List UInt8 := jn5 (w5E x)
def z6 : Entry := (0, 0, [], [], [], false)
def wE (w : W5) : Entry × Bool :=
  if (wordB w.2.2.1 && wordB w.2.2.2.1 && plain w.2.2.2.2) = false then (z6, false) else if w.2.2.2.1 = [33] then (z6, false) else
  (((digV w.1 13).1, (digV w.2.1 13).1, w.2.2.2.2, rdh w.2.2.1, if w.2.2.2.1[0]? = some 33 then w.2.2.2.1.drop 1 else rdh w.2.2.2.1, decide (w.2.2.2.1[0]? = some 33)), (digV w.1 13).2 && (digV w.2.1 13).2)
/-- What a line of a schedule says. -/
def enIn (l : List UInt8) : Entry × Bool := match w5 l with
  | none => (z6, false)
  | some w => wE w
theorem nm_head {s : List UInt8} (h : nm s = true) : s ≠ [45] ∧ s[0]? ≠ some 33 ∧ s ≠ [] := by
  simp only [nm, Bool.and_eq_true] at h
  obtain ⟨-, h⟩ := h
  cases s with
  | nil => cases h
  | cons c r =>
    simp only [ltr, Bool.and_eq_true, decide_eq_true_eq] at h
    refine ⟨fun q => ?_, fun q => ?_, by simp⟩
    · injection q with q _
      subst q
      simp at h
    · simp only [List.getElem?_cons_zero, Option.some.injEq] at q
      subst q
      simp at h
theorem dsh_word {s : List UInt8} (h : s = [] ∨ nm s = true) : wordB (dsh s) = true := by
  unfold dsh
  rcases h with rfl | h
  · rfl
  · rw [if_neg (nm_head h).2.2]
    exact nm_word h
theorem rdh_dsh {s : List UInt8} (h : s = [] ∨ nm s = true) : rdh (dsh s) = s := by
  unfold dsh rdh
  rcases h with rfl | h
  · rfl
  · rw [if_neg (nm_head h).2.2, if_neg (nm_head h).1]
theorem dsh_head {s : List UInt8} (h : s = [] ∨ nm s = true) : (dsh s)[0]? ≠ some 33 ∧ dsh s ≠ [33] := by
  unfold dsh
  rcases h with rfl | h
  · exact ⟨by decide, by decide⟩
  · rw [if_neg (nm_head h).2.2]
    exact ⟨(nm_head h).2.1, fun q => (nm_head h).2.1 (by rw [q]; rfl)⟩
theorem jn5_no {w : W5} (h1 : (10 : UInt8) ∉ w.1) (h2 : (10 : UInt8) ∉ w.2.1) (h3 : (10 : UInt8) ∉ w.2.2.1) (h4 : (10 : UInt8) ∉ w.2.2.2.1) (h5 : (10 : UInt8) ∉ w.2.2.2.2) : (10 : UInt8) ∉ jn5 w := by
  unfold jn5
  simp [h1, h2, h3, h4, h5]
theorem enIn_fwd {x : Entry} (h : entE x = 0) : enIn (lnE x) = (x, true) ∧ (10 : UInt8) ∉ lnE x := by
  obtain ⟨id, a, c, g, i, nt⟩ := x
  unfold entE at h
  simp only at h
  split at h
  · cases h
  split at h
  · cases h
  split at h
  · cases h
  split at h
  · cases h
  rename_i h1 h2 h3 h4
  simp [inB] at h1 h2 h3 h4
  have hg : g = [] ∨ nm g = true := by
    by_cases q : g = []
    · exact .inl q
    · exact .inr (h3.1 q)
  have hi : i = [] ∨ nm i = true := by
    by_cases q : i = []
    · exact .inl q
    · exact .inr (h3.2 q)
  have w1 := word_no (itoa_word (n := id) (by omega))
  have w2 := word_no (itoa_word (n := a) (by omega))
  have w3 := dsh_word hg
  have w5' := cmd_plain h2
  have d1 : digV (Lib.itoa id) 13 = (id, true) := digV_itoa (k := 12) (by omega) (by omega)
  have d2 : digV (Lib.itoa a) 13 = (a, true) := digV_itoa (k := 12) (by omega) (by omega)
  have w4 : wordB (cnd (id, a, c, g, i, nt)) = true := by
    unfold cnd
    simp only
    cases nt with
    | true =>
      have hn : nm i = true := by
        rcases hi with q | q
        · exact absurd q (h4 rfl)
        · exact q
      have := nm_word hn
      simp only [wordB, Bool.and_eq_true, List.all_eq_true] at this
      simp only [if_true, wordB, Bool.and_eq_true, List.all_cons, List.all_eq_true]
      exact ⟨⟨by decide, this.1⟩, by simp⟩
    | false => exact dsh_word hi
  have hw := w5_at (w := w5E (id, a, c, g, i, nt)) w1.1 w2.1 (word_no w3).1 (word_no w4).1
  refine ⟨?_, jn5_no w1.2 w2.2 (word_no w3).2 (word_no w4).2 (plain_no w5')⟩
  unfold enIn lnE
  rw [hw]
  show wE _ = _
  unfold wE w5E
  simp only [w3, w4, w5', d1, d2, rdh_dsh hg, Bool.and_self, if_neg (show ¬ true = false by decide)]
  unfold cnd
  simp only
  cases nt with
  | true =>
    have hne : i ≠ [] := h4 rfl
    simp [hne]
  | false =>
    obtain ⟨p1, p2⟩ := dsh_head hi
    simp [p1, p2, rdh_dsh hi]
theorem dsh_rdh {s : List UInt8} (h : s ≠ []) : dsh (rdh s) = s := by
  unfold dsh rdh
  by_cases q : s = [45]
  · subst q; rfl
  · rw [if_neg q, if_neg h]
theorem enIn_back {l : List UInt8} {x : Entry} (h : enIn l = (x, true)) : lnE x = l := by
  unfold enIn at h
  split at h
  · simp at h
  rename_i w hw
  rw [w5_eq hw]
  unfold wE at h
  split at h
  · simp at h
  rename_i q1
  split at h
  · simp at h
  rename_i q2
  simp only [Bool.not_eq_false, Bool.and_eq_true] at q1
  simp only [Prod.mk.injEq, Bool.and_eq_true] at h
  obtain ⟨⟨rfl, rfl, rfl, rfl, rfl, rfl⟩, h1, h2⟩ := h
  have e3 : w.2.2.1 ≠ [] := fun e => by rw [e] at q1; cases q1.1.1
  have e4 : w.2.2.2.1 ≠ [] := fun e => by rw [e] at q1; cases q1.1.2
  unfold lnE w5E cnd
  simp only [digV_back h1, digV_back h2, dsh_rdh e3]
  congr 1
  congr 1
  congr 1
  congr 1
  congr 1
  by_cases q : w.2.2.2.1[0]? = some 33
  · cases hd : w.2.2.2.1 with
    | nil => exact absurd hd e4
    | cons c r =>
      rw [hd] at q
      simp only [List.getElem?_cons_zero, Option.some.injEq] at q
      subst q
      simp
  · simp [q, dsh_rdh e4]
/-- A line of a schedule is put behind. -/
def stN (line : List UInt8) (l : List Entry) : List Entry × Bool := (l ++ [(enIn line).1], (enIn line).2)
def ET (l : List Entry) : List UInt8 := l.flatMap fun x => lnE x ++ [10]
theorem ET_snoc (l : List Entry) (x : Entry) : ET (l ++ [x]) = ET l ++ (lnE x ++ [10]) := by simp [ET]
theorem ents_read : ∀ (l b : List Entry) (f : Nat) (n : Int), (∀ x ∈ l, entE x = 0) → (ET l).length < f → 0 < n → rdG stN f (ET l) n b = (b ++ l, 0)
  | [], b, f, n, _, hf, _ => by
    match f, hf with
    | 0, hf => omega
    | f + 1, hf => simp [ET, rdG]
  | x :: l, b, f, n, h, hf, hn => by
    obtain ⟨h1, h2⟩ := enIn_fwd (h x (by simp))
    have e : ET (x :: l) = lnE x ++ 10 :: ET l := by simp [ET]
    rw [e] at hf ⊢
    match f, hf with
    | 0, hf => omega
    | f + 1, hf =>
      rw [rdG_line h2 (b' := b ++ [x]) (by unfold stN; rw [h1]), ents_read l _ f (n + 1) (fun q hq => h q (List.mem_cons_of_mem _ hq)) (by simp only [List.length_append, List.length_cons] at hf; omega) (by omega)]
      simp
theorem rdN_back : ∀ (f : Nat) (text : List UInt8) (n : Int) (b b' : List Entry), 0 < n → rdG stN f text n b = (b', 0) → ET b' = ET b ++ text
  | 0, text, n, b, b', hn, h => by
    rw [rdG] at h
    injection h with _ h2
    omega
  | f + 1, text, n, b, b', hn, h => by
    rw [rdG] at h
    split at h
    · rename_i q
      injection h with h1 _
      rw [q, ← h1, List.append_nil]
    split at h
    · injection h with _ h2
      omega
    rename_i q1 q2
    obtain ⟨i, hi⟩ := Int.eq_ofNat_of_zero_le (show 0 ≤ Lib.indexByte text 10 by omega)
    rw [hi, Int.toNat_natCast] at h
    split at h
    · rename_i q3
      have hb := enIn_back (l := text.take i) (x := (enIn (text.take i)).1) (Prod.ext rfl q3)
      have h2 := rdN_back f _ _ _ _ (by omega) h
      rw [h2]
      show ET (b ++ [(enIn (text.take i)).1]) ++ _ = _
      rw [ET_snoc, hb, List.append_assoc, List.append_assoc]
      congr 1
      exact (ib_cut text 10 i hi).symm
    · injection h with _ h2
      omega
def textN (E : List Entry → Int) (l : List Entry) : List UInt8 × Int := if E l ≠ 0 then ([], E l) else if 300000 < (ET l).length then ([], 2) else (ET l, 0)
def readN (E : List Entry → Int) (text : List UInt8) : List Entry × Int × Int :=
  if 300000 < text.length then ([], 0, 2) else
  if 0 < (rdG stN (text.length + 1) text 1 []).2 then ([], (rdG stN (text.length + 1) text 1 []).2, 10) else
  if E (rdG stN (text.length + 1) text 1 []).1 ≠ 0 then ([], 0, E (rdG stN (text.length + 1) text 1 []).1) else ((rdG stN (text.length + 1) text 1 []).1, 0, 0)
theorem textN_read {E : List Entry → Int} (hE : ∀ l, E l = 0 → ∀ x ∈ l, entE x = 0) {l : List Entry} {s : List UInt8} (h : textN E l = (s, 0)) : readN E s = (l, 0, 0) := by
  unfold textN at h
  split at h
  · rename_i q
    simp only [Prod.mk.injEq] at h
    exact absurd h.2 q
  rename_i q
  split at h
  · simp at h
  rename_i q2
  simp only [Prod.mk.injEq, and_true] at h
  have he : E l = 0 := Classical.not_not.1 q
  have hr := ents_read l [] ((ET l).length + 1) 1 (hE l he) (by omega) (by decide)
  rw [List.nil_append] at hr
  rw [← h]
  unfold readN
  rw [if_neg q2, hr, if_neg (by simp), if_neg q]
theorem rdG_pos {β : Type} {st : List UInt8 → β → β × Bool} : ∀ (f : Nat) (text : List UInt8) (n : Int) (b : β), 0 ≤ n → 0 ≤ (rdG st f text n b).2 := by
  intro f
  induction f with
  | zero => intro text n b h; exact h
  | succ f ih =>
    intro text n b h
    rw [rdG]
    split
    · simp
    split
    · exact h
    split
    · exact ih _ _ _ (by omega)
    · exact h
theorem readN_text {E : List Entry → Int} {l : List Entry} {text : List UInt8} {n : Int} (h : readN E text = (l, n, 0)) : textN E l = (text, 0) := by
  unfold readN at h
  split at h
  · simp at h
  split at h
  · simp at h
  split at h
  · rename_i q
    simp only [Prod.mk.injEq] at h
    exact absurd h.2.2 q
  rename_i q1 q2 q3
  simp only [Prod.mk.injEq] at h
  have hz := rdG_pos (st := stN) (text.length + 1) text 1 [] (by decide)
  have hr : rdG stN (text.length + 1) text 1 [] = (l, 0) := Prod.ext h.1 (by simp only; omega)
  have hb := rdN_back _ _ _ _ _ (by decide) hr
  rw [show ET [] = [] from rfl, List.nil_append] at hb
  rw [hr] at q3
  unfold textN
  rw [if_neg q3, hb, if_neg q1]
end Go.Proofs.P4
end
section
set_option linter.unusedVariables false
set_option linter.unusedSimpArgs false
set_option maxRecDepth 10000
set_option maxHeartbeats 8000000
namespace Go.Proofs.P4
open Go.Ex
abbrev spl (k : Nat) (s : List UInt8) : List (List UInt8) := Lib.splitK [32] 0 k s
theorem spl_none {k : Nat} {s : List UInt8} (h : cutB s = none) : spl k s = [s] := by
  unfold cutB at h
  split at h
  · rename_i q
    have hb := (ib_lt s 32).2
    cases k with
    | zero => rfl
    | succ k =>
      show Lib.splitK [32] 0 (k + 1) s = [s]
      rw [Lib.splitK, index_byte, if_pos (by rw [beq_iff_eq]; omega)]
  · cases h
theorem spl_some {k : Nat} {s a r : List UInt8} (h : cutB s = some (a, r)) : spl (k + 1) s = a :: spl k r := by
  unfold cutB at h
  split at h
  · cases h
  rename_i q
  injection h with h
  injection h with h1 h2
  show Lib.splitK [32] 0 (k + 1) s = _
  rw [Lib.splitK, index_byte, if_neg (by rw [beq_iff_eq]; omega), ← h1, ← h2]
  rfl
theorem spl_len : ∀ (k : Nat) (s : List UInt8), (spl k s).length ≤ k + 1
  | 0, s => Nat.le_refl _
  | k + 1, s => by
    cases h : cutB s with
    | none => rw [spl_none h]; simp
    | some p =>
      rw [spl_some (a := p.1) (r := p.2) h, List.length_cons]
      have := spl_len k p.2
      omega
/-- Five words, the last one with the rest, or fewer. -/
theorem spl4 (s : List UInt8) : (∃ w, w5 s = some w ∧ spl 4 s = [w.1, w.2.1, w.2.2.1, w.2.2.2.1, w.2.2.2.2]) ∨ (w5 s = none ∧ (spl 4 s).length < 5) := by
  unfold w5
  cases h1 : cutB s with
  | none => exact .inr ⟨rfl, by rw [spl_none h1]; simp⟩
  | some p =>
    rw [spl_some (k := 3) (a := p.1) (r := p.2) h1, Option.bind_some]
    cases h2 : cutB p.2 with
    | none => exact .inr ⟨rfl, by rw [spl_none h2]; simp⟩
    | some q =>
      rw [spl_some (k := 2) (a := q.1) (r := q.2) h2, Option.bind_some]
      cases h3 : cutB q.2 with
      | none => exact .inr ⟨rfl, by rw [spl_none h3]; simp⟩
      | some r =>
        rw [spl_some (k := 1) (a := r.1) (r := r.2) h3, Option.bind_some]
        cases h4 : cutB r.2 with
        | none => exact .inr ⟨rfl, by rw [spl_none h4]; simp⟩
        | some t =>
          rw [spl_some (k := 0) (a := t.1) (r := t.2) h4]
          exact .inl ⟨_, rfl, rfl⟩
theorem spN (s : List UInt8) : (∃ w, w5 s = some w ∧ Lib.splitN s [32] 5 = [w.1, w.2.1, w.2.2.1, w.2.2.2.1, w.2.2.2.2]) ∨ (w5 s = none ∧ (Lib.splitN s [32] 5).length < 5) := by
  unfold Lib.splitN
  by_cases h : 4 ≤ s.length
  · rw [show min 5 (s.length + 1) - 1 = 4 by omega]
    exact spl4 s
  · refine .inr ⟨?_, ?_⟩
    · cases hw : w5 s with
      | none => rfl
      | some w =>
        have := congrArg List.length (w5_eq hw)
        unfold jn5 at this
        simp only [List.length_append, List.length_cons] at this
        omega
    · have : (Lib.splitK [32] 0 (min 5 (s.length + 1) - 1) s).length ≤ min 5 (s.length + 1) - 1 + 1 := spl_len _ s
      omega
theorem join_jw : ∀ (w : List (List UInt8)), Lib.join w [32] = jw w
  | [] => rfl
  | [a] => Lib.join_one a [32]
  | a :: b :: r => by
    have ih := join_jw (b :: r)
    unfold Lib.join at *
    rw [jw, ← ih]
    simp [List.intercalate, List.intersperse]
theorem pre_iff {s p : List UInt8} : Lib.hasPrefix s p = decide (p <+: s) := by
  unfold Lib.hasPrefix
  rw [Bool.eq_iff_iff, List.isPrefixOf_iff_prefix, decide_eq_true_iff]
theorem trim_pre {s p : List UInt8} : Lib.trimPrefix s p = if p <+: s then s.drop p.length else s := by
  unfold Lib.trimPrefix
  rw [pre_iff]
  by_cases h : p <+: s <;> simp [h]
end Go.Proofs.P4
end
section
set_option linter.unusedVariables false
set_option linter.unusedSimpArgs false
set_option maxRecDepth 10000
set_option maxHeartbeats 8000000
namespace Go.Proofs.P4
open Go.Ex
theorem join_tx : ∀ {ls : List (List UInt8)}, ls ≠ [] → Lib.join ls [10] ++ [10] = txL ls
  | [], h => absurd rfl h
  | [a], _ => by rw [Lib.join_one]; simp [txL]
  | a :: b :: r, _ => by
    have ih := join_tx (ls := b :: r) (by simp)
    rw [txL_cons, ← ih]
    simp [Lib.join, List.intercalate, List.intersperse]
theorem txL_snoc (ls : List (List UInt8)) (a : List UInt8) : txL (ls ++ [a]) = txL ls ++ (a ++ [10]) := by simp [txL]
theorem txL_take {ls : List (List UInt8)} {k : Nat} {a : List UInt8} (h : ls[k]? = some a) : (txL (ls.take (k + 1))).length = (txL (ls.take k)).length + (a.length + 1) := by
  rw [List.take_add_one, h]
  show (txL (ls.take k ++ [a])).length = _
  rw [txL_snoc]
  simp
theorem txL_le {ls : List (List UInt8)} (k : Nat) : (txL (ls.take k)).length ≤ (txL ls).length := by
  have : txL ls = txL (ls.take k) ++ txL (ls.drop k) := by rw [← txL_app, List.take_append_drop]
  rw [this, List.length_append]
  omega
theorem ET_lines (l : List Entry) : ET l = txL (l.map lnE) := by
  induction l with
  | nil => rfl
  | cons x r ih =>
    rw [List.map_cons, txL_cons, ← ih]
    simp [ET]
/-- The lines of procedures. -/
def lnP (p : Prc) : List (List UInt8) := lnN p.1 :: p.2.map lnS
def lnPs (ps : List Prc) : List (List UInt8) := ps.flatMap lnP
theorem PT_lines (ps : List Prc) : PT ps = txL (lnPs ps) := by
  induction ps with
  | nil => rfl
  | cons p r ih =>
    have e : lnPs (p :: r) = lnP p ++ lnPs r := by simp [lnPs]
    rw [e, txL_app, ← ih]
    simp [PT, txP, lnP]
/-- A line of the reference's text of an entry. -/
theorem lnE_eq (x : Entry) : lnE x = Lib.itoa x.1 ++ [32] ++ Lib.itoa x.2.1 ++ [32] ++ dsh x.2.2.2.1 ++ [32] ++ cnd x ++ [32] ++ x.2.2.1 := by
  simp [lnE, jn5, w5E]
theorem lnE_join (x : Entry) : lnE x = Lib.join [Lib.itoa x.1, Lib.itoa x.2.1, dsh x.2.2.2.1, cnd x, x.2.2.1] [32] := by
  rw [join_jw, lnE_eq]
  simp [jw]
theorem lnE_len {x : Entry} (h : entE x = 0) : (lnE x).length ≤ 300 := by
  unfold entE at h
  split at h
  · cases h
  split at h
  · cases h
  split at h
  · cases h
  rename_i h1 h2 h3
  simp [inB, cmd] at h1 h2 h3
  have l1 := Lib.itoa_length_le x.1 (by omega) (by omega)
  have l2 := Lib.itoa_length_le x.2.1 (by omega) (by omega)
  have nl : ∀ s : List UInt8, (¬ s = [] → nm s = true) → (dsh s).length ≤ 40 ∧ s.length ≤ 40 := fun s hs => by
    unfold dsh
    by_cases q : s = []
    · subst q; decide
    · rw [if_neg q]
      have := hs q
      simp only [nm, Bool.and_eq_true, decide_eq_true_eq] at this
      omega
  have l3 := nl _ h3.1
  have l4 := nl _ h3.2
  have l5 : (cnd x).length ≤ 41 := by
    unfold cnd
    split
    · simp only [List.length_cons]; omega
    · omega
  rw [lnE_eq]
  simp only [List.length_append, List.length_singleton]
  omega
end Go.Proofs.P4
end
