/- Dates and times in plain Lean: what a date is, and that it comes back. -/
import Derived.Test.YtjldiihndmkpfaaDoorH2
import Derived.Test.YtjldiihndmkpfaaDoorD2D
set_option linter.unusedVariables false
set_option linter.unusedSimpArgs false
set_option maxRecDepth 10000
set_option maxHeartbeats 8000000
namespace Go.Proofs.P4
open Go.Ex
def leapE (l : List Int) (k : Nat) : Int := match l[k]? with
  | some a => if inB a 0 20000 = false then 1 else if before l (fun y => decide (a ≤ y)) k = true then 8 else 0
  | none => 0
def leapsE (l : List Int) : Int := if 100 < l.length then 2 else fe (leapE l) l.length
theorem civ_ex : ∀ n, ∃ p, Vd p ∧ dn p = n
  | 0 => ⟨(0, 1, 0), ⟨by decide, by decide, by decide⟩, rfl⟩
  | n + 1 => by
    obtain ⟨⟨y, m, d⟩, ⟨a, b, c⟩, e⟩ := civ_ex n
    simp only [dn] at a b c e
    by_cases h1 : d + 1 < lg y m
    · exact ⟨(y, m, d + 1), ⟨a, b, h1⟩, by simp only [dn]; omega⟩
    have hs := mo_succ (y := y) a
    by_cases h2 : m < 12
    · exact ⟨(y, m + 1, 0), ⟨by simp only; omega, h2, by have := lg_pos y (m + 1); simp only; omega⟩, by simp only [dn]; omega⟩
    · have h3 : m = 12 := by omega
      subst h3
      have hm : mo y (12 + 1) = yl y := mo_13 y
      refine ⟨(y + 1, 1, 0), ⟨by simp, by simp, by have := lg_pos (y + 1) 1; simp only; omega⟩, ?_⟩
      simp only [dn, dy, show mo (y + 1) 1 = 0 from rfl]
      omega
theorem civ_spec (n : Nat) : Vd (civ n) ∧ dn (civ n) = n := by
  obtain ⟨p, h, e⟩ := civ_ex n
  rw [civ_eq h e]
  exact ⟨h, e⟩
def hms (s : Nat) : Nat × Nat × Nat := if 86400 ≤ s then (23, 59, 60) else (s / 3600, s / 60 % 60, s % 60)
noncomputable def dateT (l : List Int) (time : Int) : List UInt8 :=
  dtx (civ (dayOf l time + dy 2000)).1 (civ (dayOf l time + dy 2000)).2.1 ((civ (dayOf l time + dy 2000)).2.2 + 1) (hms ((time - st l (dayOf l time)).toNat / 1000)).1 (hms ((time - st l (dayOf l time)).toNat / 1000)).2.1 (hms ((time - st l (dayOf l time)).toNat / 1000)).2.2 ((time - st l (dayOf l time)).toNat % 1000)
noncomputable def dateF (l : List Int) (time : Int) : List UInt8 × Int := if leapsE l ≠ 0 then ([], leapsE l) else if inB time 0 1000000000000 = false then ([], 1) else (dateT l time, 0)
def dayN (y m d : Nat) : Nat := dy y + mo y m + (d - 1) - dy 2000
def readT (l : List Int) (y m d h mi s ms : Nat) : Int × Int :=
  if ¬ (1 ≤ m ∧ m ≤ 12) ∨ ¬ (1 ≤ d ∧ d ≤ lg y m) ∨ 23 < h ∨ 59 < mi ∨ 60 < s ∨ y < 2000 then (0, 1) else
  if s = 60 ∧ (h ≠ 23 ∨ mi ≠ 59 ∨ (dayN y m d : Int) ∉ l) then (0, 1) else
  if 1000000000000 < st l (dayN y m d) + (((h * 60 + mi) * 60 + s) * 1000 + ms : Nat) then (0, 1) else (st l (dayN y m d) + (((h * 60 + mi) * 60 + s) * 1000 + ms : Nat), 0)
open Classical in
noncomputable def readF (l : List Int) (s : List UInt8) : Int × Int := if leapsE l ≠ 0 then (0, leapsE l) else if ¬ Fm s then (0, 10) else
  readT l (vl (seg s 0 4)) (vl (seg s 5 2)) (vl (seg s 8 2)) (vl (seg s 11 2)) (vl (seg s 14 2)) (vl (seg s 17 2)) (vl (seg s 20 3))
theorem leaps_good {l : List Int} (h : leapsE l = 0) : LeapsOk l := by
  unfold leapsE at h
  split at h
  · cases h
  rename_i h1
  have hall := fe_zero h
  have hch : ∀ k a, l[k]? = some a → inB a 0 20000 = true ∧ before l (fun y => decide (a ≤ y)) k = false := fun k a hk => by
    have := hall k (by have := (List.getElem?_eq_some_iff.1 hk).1; omega)
    unfold leapE at this
    rw [hk] at this
    simp only at this
    split at this
    · cases this
    split at this
    · cases this
    rename_i q1 q2
    exact ⟨by simpa using q1, by simpa using q2⟩
  have hv : ∀ k a z, l[k + 1]? = some a → l[k]? = some z → z < a := fun k a z ha hz => by
    have := (hch _ a ha).2
    rw [before_pos (by omega) (z := z) hz] at this
    simpa using this
  refine ⟨by omega, ?_, fun a ha => by
    obtain ⟨k, hk⟩ := List.getElem?_of_mem ha
    have := (hch k a hk).1
    simpa [inB] using this⟩
  intro i j
  induction j with
  | zero => intro a b hij; omega
  | succ j ih =>
    intro a b hij ha hb
    have hj : j < l.length := by have := (List.getElem?_eq_some_iff.1 hb).1; omega
    have hc : l[j]? = some l[j] := List.getElem?_eq_getElem hj
    have h2 := hv j b _ hb hc
    rcases Nat.lt_or_ge i j with q | q
    · have := ih a _ q ha hc
      omega
    · have : i = j := by omega
      subst this
      rw [hc] at ha
      injection ha with ha
      omega
theorem dy_2000 : dy 2000 = 730485 := dy_eq 1999
theorem dy_2100 : dy 2100 = 767010 := dy_eq 2099
/-- What holds of a time with a date. -/
structure At (l : List Int) (time : Int) (day : Nat) (p : Ymd) (r : Nat) : Prop where
  vd : Vd p
  e : dn p = day + dy 2000
  y0 : 2000 ≤ p.1
  y1 : p.1 < 2100
  t : time = st l day + r
  r : r < 86400000 ∨ r < 86401000 ∧ (day : Int) ∈ l
theorem at_of {l : List Int} {time : Int} (h : LeapsOk l) (h0 : 0 ≤ time) (h1 : time ≤ 1000000000000) : At l time (dayOf l time) (civ (dayOf l time + dy 2000)) (time - st l (dayOf l time)).toNat := by
  obtain ⟨a, b, c⟩ := dayOf_spec h h0
  obtain ⟨d, e⟩ := civ_spec (dayOf l time + dy 2000)
  generalize dayOf l time = day at *
  generalize civ (day + dy 2000) = p at *
  have h2 := (dn_lt d).1
  have hd : day ≤ 11575 := by omega
  have h3 := dy_2000
  have h4 := dy_2100
  rw [st_succ h.asc] at b
  refine ⟨d, e, ?_, ?_, by omega, ?_⟩
  · rcases Nat.lt_or_ge p.1 2000 with q | q
    · have := dy_le (p.1 + 1) 2000 q
      omega
    · exact q
  · rcases Nat.lt_or_ge p.1 2100 with q | q
    · exact q
    · have := dy_le 2100 p.1 q
      unfold dn at e
      omega
  · split at b
    · rename_i q
      exact .inr ⟨by omega, q⟩
    · exact .inl (by omega)
theorem at_eq {l : List Int} {time : Int} {day : Nat} {p : Ymd} {r : Nat} (h : LeapsOk l) (a : At l time day p r) : dayOf l time = day ∧ civ (day + dy 2000) = p ∧ (time - st l (dayOf l time)).toNat = r := by
  have hd : dayOf l time = day := by
    refine dayOf_eq h (by have := a.t; omega) ?_
    rw [st_succ h.asc]
    have := a.t
    rcases a.r with q | ⟨q, w⟩
    · split <;> omega
    · rw [if_pos w]; omega
  rw [hd]
  exact ⟨rfl, civ_eq a.vd a.e, by have := a.t; omega⟩
theorem parts_of {l : List Int} {time : Int} {day : Nat} {p : Ymd} {r : Nat} (a : At l time day p r) : Parts (dtx p.1 p.2.1 (p.2.2 + 1) (hms (r / 1000)).1 (hms (r / 1000)).2.1 (hms (r / 1000)).2.2 (r % 1000)) p.1 p.2.1 (p.2.2 + 1) (hms (r / 1000)).1 (hms (r / 1000)).2.1 (hms (r / 1000)).2.2 (r % 1000) := by
  have b := lg_pos p.1 p.2.1
  have c := a.vd.d
  have d := a.vd.m2
  have e := a.y1
  refine ⟨rfl, by omega, by omega, by omega, ?_, ?_, ?_, by omega⟩ <;> unfold hms <;> split <;> simp only <;> omega
/-- A time is read from its date. -/
theorem date_read {l : List Int} {time : Int} {s : List UInt8} (h : dateF l time = (s, 0)) : readF l s = (time, 0) := by
  unfold dateF at h
  split at h
  · rename_i q
    simp only [Prod.mk.injEq] at h
    exact absurd h.2 q
  rename_i q
  split at h
  · simp at h
  rename_i q2
  simp only [Prod.mk.injEq, and_true] at h
  have hl := leaps_good (l := l) (by simpa using q)
  simp only [inB, Bool.not_eq_false, Bool.and_eq_true, decide_eq_true_eq] at q2
  have a := at_of hl q2.1 q2.2
  unfold dateT at h
  generalize dayOf l time = day at *
  generalize civ (day + dy 2000) = p at *
  generalize (time - st l day).toNat = r at *
  have hp := parts_of a
  rw [h] at hp
  obtain ⟨k1, k2, k3, k4, k5, k6, k7⟩ := fm_back hp
  unfold readF
  rw [if_neg q, if_neg (by rw [← h]; exact fun q => q (fm_dtx ..)), k1, k2, k3, k4, k5, k6, k7]
  have hd : dayN p.1 p.2.1 (p.2.2 + 1) = day := by
    have := a.e
    unfold dn at this
    unfold dayN
    omega
  have b1 := a.vd.m1
  have b2 := a.vd.m2
  have b3 := a.vd.d
  have b4 := a.y0
  have b5 := a.r
  have b6 := a.t
  have b7 := st_zero hl
  unfold readT
  rw [hd]
  have hq : ((((hms (r / 1000)).1 * 60 + (hms (r / 1000)).2.1) * 60 + (hms (r / 1000)).2.2) * 1000 + r % 1000) = r ∧ (hms (r / 1000)).1 ≤ 23 ∧ (hms (r / 1000)).2.1 ≤ 59 ∧ (hms (r / 1000)).2.2 ≤ 60 ∧ ((hms (r / 1000)).2.2 = 60 → (hms (r / 1000)).1 = 23 ∧ (hms (r / 1000)).2.1 = 59 ∧ (day : Int) ∈ l) := by
    unfold hms
    split
    · rename_i w
      have : (day : Int) ∈ l := by
        rcases b5 with q | q
        · omega
        · exact q.2
      have : r < 86401000 := by rcases b5 with q | q <;> omega
      exact ⟨by simp only; omega, by simp, by simp, by simp, fun _ => ⟨rfl, rfl, by assumption⟩⟩
    · rename_i w
      exact ⟨by simp only; omega, by simp only; omega, by simp only; omega, by simp only; omega, fun e => by simp only at e; omega⟩
  generalize hms (r / 1000) = k at *
  obtain ⟨c1, c2, c3, c4, c5⟩ := hq
  rw [if_neg (by omega), if_neg (fun e => by
    obtain ⟨d1, d2, d3⟩ := c5 e.1
    rcases e.2 with e | e | e
    · exact e d1
    · exact e d2
    · exact e d3), c1, ← b6, if_neg (by omega)]
/-- What is read has this date. -/
theorem read_date {l : List Int} {n : Int} {s : List UInt8} (h : readF l s = (n, 0)) : dateF l n = (s, 0) := by
  unfold readF at h
  split at h
  · rename_i q
    simp only [Prod.mk.injEq] at h
    exact absurd h.2 q
  rename_i q
  split at h
  · simp at h
  rename_i q2
  have hl := leaps_good (l := l) (by simpa using q)
  have hp := fm_parts (Classical.not_not.1 q2)
  generalize vl (seg s 0 4) = y at *
  generalize vl (seg s 5 2) = m at *
  generalize vl (seg s 8 2) = d at *
  generalize vl (seg s 11 2) = hh at *
  generalize vl (seg s 14 2) = mi at *
  generalize vl (seg s 17 2) = sc at *
  generalize vl (seg s 20 3) = ms at *
  unfold readT at h
  split at h
  · simp at h
  rename_i c1
  split at h
  · simp at h
  rename_i c2
  split at h
  · simp at h
  rename_i c3
  simp only [Prod.mk.injEq, and_true] at h
  have hz := hp.z1
  have hdy := dy_le 2000 y (by omega)
  have hday : ((dayN y m d : Nat) : Int) = dayN y m d := rfl
  have h60 : sc = 60 → hh = 23 ∧ mi = 59 ∧ (dayN y m d : Int) ∈ l := fun e => ⟨Classical.byContradiction fun w => c2 ⟨e, .inl w⟩, Classical.byContradiction fun w => c2 ⟨e, .inr (.inl w)⟩, Classical.byContradiction fun w => c2 ⟨e, .inr (.inr w)⟩⟩
  have hr : (((hh * 60 + mi) * 60 + sc) * 1000 + ms < 86400000) ∨ (((hh * 60 + mi) * 60 + sc) * 1000 + ms < 86401000 ∧ (dayN y m d : Int) ∈ l) := by
    by_cases e : sc = 60
    · obtain ⟨e1, e2, e3⟩ := h60 e
      exact .inr ⟨by omega, e3⟩
    · exact .inl (by omega)
  have hvd : Vd (y, m, d - 1) := ⟨by simp only; omega, by simp only; omega, by simp only; omega⟩
  have hdn : dn (y, m, d - 1) = dayN y m d + dy 2000 := by
    unfold dn dayN
    simp only
    omega
  have hn : n ≤ 1000000000000 := by omega
  have h0 : 0 ≤ n := by
    have := st_zero hl
    unfold st at h
    omega
  have hy : y < 2100 := by
    have a := (dn_lt hvd).1
    have b : dayN y m d ≤ 11575 := by unfold st at h; omega
    have h3 := dy_2000
    have h4 := dy_2100
    rcases Nat.lt_or_ge y 2100 with q | q
    · exact q
    · have := dy_le 2100 y q
      unfold dn at hdn
      simp only at hdn
      omega
  have a : At l n (dayN y m d) (y, m, d - 1) (((hh * 60 + mi) * 60 + sc) * 1000 + ms) := ⟨hvd, hdn, by simp only; omega, hy, h.symm, hr⟩
  obtain ⟨e1, e2, e3⟩ := at_eq hl a
  unfold dateF
  rw [if_neg q, if_neg (by simp [inB]; omega)]
  have e4 : hms ((((hh * 60 + mi) * 60 + sc) * 1000 + ms) / 1000) = (hh, mi, sc) := by
    unfold hms
    by_cases e : sc = 60
    · obtain ⟨e1, e2, e3⟩ := h60 e
      subst e1 e2 e
      rw [if_pos (by omega)]
    · rw [if_neg (by omega), show (((hh * 60 + mi) * 60 + sc) * 1000 + ms) / 1000 / 3600 = hh by omega, show (((hh * 60 + mi) * 60 + sc) * 1000 + ms) / 1000 / 60 % 60 = mi by omega, show (((hh * 60 + mi) * 60 + sc) * 1000 + ms) / 1000 % 60 = sc by omega]
  unfold dateT
  rw [e3, e1, e2, e4]
  simp only
  rw [show d - 1 + 1 = d by omega, show (((hh * 60 + mi) * 60 + sc) * 1000 + ms) % 1000 = ms by omega, hp.e]
/-- Dates are in the order of their times. -/
theorem date_lt {l : List Int} {a b : Int} {s t : List UInt8} (h1 : dateF l a = (s, 0)) (h2 : dateF l b = (t, 0)) (hab : a < b) : Op.bytesLess s t = true := by
  unfold dateF at h1 h2
  split at h1
  · rename_i q
    simp only [Prod.mk.injEq] at h1
    exact absurd h1.2 q
  rename_i q
  rw [if_neg q] at h2
  split at h1
  · simp at h1
  rename_i q1
  split at h2
  · simp at h2
  rename_i q2
  simp only [Prod.mk.injEq, and_true] at h1 h2
  have hl := leaps_good (l := l) (by simpa using q)
  simp only [inB, Bool.not_eq_false, Bool.and_eq_true, decide_eq_true_eq] at q1 q2
  have A := at_of hl q1.1 q1.2
  have B := at_of hl q2.1 q2.2
  unfold dateT at h1 h2
  generalize dayOf l a = day at *
  generalize civ (day + dy 2000) = p at *
  generalize (a - st l day).toNat = r at *
  generalize dayOf l b = day' at *
  generalize civ (day' + dy 2000) = p' at *
  generalize (b - st l day').toNat = r' at *
  have P := parts_of B
  rw [← h1, ← h2]
  refine dtx_lt P.y1 P.m1 P.d1 P.h1 P.i1 P.s1 P.z1 ?_
  have hd : day ≤ day' := by
    rcases Nat.lt_or_ge day' day with w | w
    · have e : st l ((day' : Int) + 1) ≤ st l day := by
        rcases Nat.lt_or_ge (day' + 1) day with v | v
        · have := st_lt (l := l) (d := (day' : Int) + 1) (e := day) (by omega)
          omega
        · rw [show (day : Int) = (day' : Int) + 1 by omega]
          exact Int.le_refl _
      rw [st_succ hl.asc] at e
      have := A.t
      have := B.t
      rcases B.r with v | ⟨v, w⟩
      · split at e <;> omega
      · rw [if_pos w] at e
        omega
    · exact w
  rcases Nat.lt_or_ge day day' with w | w
  · have := dn_lex A.vd B.vd (by rw [A.e, B.e]; omega)
    omega
  · have e : day = day' := by omega
    subst e
    have hp : p = p' := dn_inj A.vd B.vd (by rw [A.e, B.e])
    subst hp
    refine .inr ⟨rfl, .inr ⟨rfl, .inr ⟨rfl, ?_⟩⟩⟩
    have hr : r < r' := by have := A.t; have := B.t; omega
    have r2 : r' < 86401000 := by rcases B.r with v | v <;> omega
    have r1 : r < 86401000 := by rcases A.r with v | v <;> omega
    unfold hms
    by_cases c1 : 86400 ≤ r / 1000
    · have c2 : 86400 ≤ r' / 1000 := by omega
      rw [if_pos c1, if_pos c2]
      exact .inr ⟨rfl, .inr ⟨rfl, .inr ⟨rfl, by omega⟩⟩⟩
    · rw [if_neg c1]
      by_cases c2 : 86400 ≤ r' / 1000
      · rw [if_pos c2]
        simp only
        omega
      · rw [if_neg c2]
        simp only
        omega
end Go.Proofs.P4

