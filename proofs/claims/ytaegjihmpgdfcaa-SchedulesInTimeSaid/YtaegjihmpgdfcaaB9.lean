/- Runs without changes, in plain Lean; Runs on a board that always runs, in plain Lean; Run, its rows as the caller's own; The law of runs in time. -/
import Derived.Test.YtaegjihmpgdfcaaB7
section
set_option linter.unusedVariables false
set_option linter.unusedSimpArgs false
set_option maxRecDepth 10000
namespace Go.Proofs.P6
open Go.Ex
section
variable {fs : List Fact} {up : List Span} {late until' : Int}
/-- A run without changes goes from turn to turn. -/
def goR (fs : List Fact) (up : List Span) (late until' : Int) : Nat → Bd → Bd
  | 0, b => b
  | k + 1, b => match b.l with
    | [] => b
    | x :: _ => if (since up x.2.1).2 = true ∧ (since up x.2.1).1 ≤ until' then goR fs up late until' k (b.turns fs late (since up x.2.1).1) else b
theorem goR_nil {k : Nat} {b : Bd} (h : b.l = []) : goR fs up late until' k b = b := by
  cases k with
  | zero => rfl
  | succ k => unfold goR; rw [h]
theorem goR_stop {k : Nat} {b : Bd} {x : Entry} {r : List Entry} (h : b.l = x :: r) (hx : ¬ ((since up x.2.1).2 = true ∧ (since up x.2.1).1 ≤ until')) : goR fs up late until' k b = b := by
  cases k with
  | zero => rfl
  | succ k =>
    unfold goR
    rw [h]
    exact if_neg hx
theorem goR_go {k : Nat} {b : Bd} {x : Entry} {r : List Entry} (h : b.l = x :: r) (hx : (since up x.2.1).2 = true ∧ (since up x.2.1).1 ≤ until') : goR fs up late until' (k + 1) b = goR fs up late until' k (b.turns fs late (since up x.2.1).1) := by
  show (match b.l with | [] => b | x :: _ => if (since up x.2.1).2 = true ∧ (since up x.2.1).1 ≤ until' then goR fs up late until' k (b.turns fs late (since up x.2.1).1) else b) = _
  rw [h]
  exact if_pos hx
/-- What is left after a moment's turns comes later. -/
theorem turnsN_later (n : Int) : ∀ (k : Nat) {b : Bd}, b.l.length ≤ k → Srt b.l → ∀ x ∈ (Bd.turnsN fs late n k b).l, n < x.2.1
  | 0, b, hk, hs, x, hx => by
    have : b.l = [] := List.length_eq_zero_iff.1 (by omega)
    rw [turnsN_nil this, this] at hx
    cases hx
  | k + 1, b, hk, hs, x, hx => by
    rcases hl : b.l with _ | ⟨y, r⟩
    · rw [turnsN_nil hl, hl] at hx; cases hx
    · have hp := hs
      unfold Srt at hp
      rw [hl] at hp
      obtain ⟨h1, h2⟩ := List.pairwise_cons.1 hp
      by_cases hy : y.2.1 ≤ n
      · rw [turnsN_go hl hy] at hx
        rw [hl, List.length_cons] at hk
        exact turnsN_later n k (b := b.turn fs late n y r) (by show r.length ≤ k; omega) h2 x hx
      · rw [turnsN_stop hl hy, hl] at hx
        rcases List.mem_cons.1 hx with rfl | hx
        · omega
        · have := h1 x hx
          simp [befE] at this
          omega
theorem srt_head {l : List Entry} {x : Entry} {r : List Entry} (hs : Srt l) (hl : l = x :: r) : ∀ y ∈ l, x.2.1 ≤ y.2.1 := fun y hy => by
  subst hl
  rcases List.mem_cons.1 hy with rfl | hy
  · exact Int.le_refl _
  · have := (List.pairwise_cons.1 hs).1 y hy
    simp [befE] at this
    omega
/-- A run without changes is such a walk. -/
theorem runR_goR (ho : SpOk up) (hu : 0 ≤ until') : ∀ (k : Nat) (i : Nat) (now : Int) (b : Bd), RI [] i now b → (∀ x ∈ b.l, now ≤ x.2.1) → now ≤ until' → runR fs up late until' k [] i now b = goR fs up late until' k b
  | 0, i, now, b, hR, hn, hnu => rfl
  | k + 1, i, now, b, hR, hn, hnu => by
    have hnt : nextT up until' [] now b = nextL up until' now b := rfl
    unfold runR
    rw [hnt]
    rcases hl : b.l with _ | ⟨x, r⟩
    · have : nextL up until' now b = until' + 1 := by unfold nextL; rw [hl]
      rw [this, if_pos (by omega), goR_nil hl]
    · have hx := hn x (by rw [hl]; simp)
      have hL : nextL up until' now b = if (since up x.2.1).2 = true then min (until' + 1) (since up x.2.1).1 else until' + 1 := by
        unfold nextL
        rw [hl]
        simp only
        rw [show max x.2.1 now = x.2.1 by omega]
      by_cases hc : (since up x.2.1).2 = true ∧ (since up x.2.1).1 ≤ until'
      · have hN : nextL up until' now b = (since up x.2.1).1 := by rw [hL, if_pos hc.1]; omega
        rw [hN, if_neg (by omega), goR_go hl hc]
        have hge := since_ge hc.1
        have hnow := hR.now0
        have hub : upB up (since up x.2.1).1 = true := since_up ho hc.1
        have ht : b.turnsIf fs up late (since up x.2.1).1 = b.turns fs late (since up x.2.1).1 := by unfold Bd.turnsIf; rw [if_pos hub]
        have hc0 : chgsL (since up x.2.1).1 [] i b = ([], i, b) := rfl
        rw [hc0]
        simp only
        rw [ht]
        have hR2 := ((hR.at (n := (since up x.2.1).1) (by omega)).turnsIf fs up late (since up x.2.1).1)
        rw [ht] at hR2
        exact runR_goR ho hu k i _ _ hR2 (fun y hy => by
          have := turnsN_later (fs := fs) (late := late) (since up x.2.1).1 b.l.length (b := b) (Nat.le_refl _) (ents_ok hR.ok).srt y hy
          omega) hc.2
      · have hN : until' < nextL up until' now b := by
          rw [hL]
          split
          · rename_i q
            have : ¬ (since up x.2.1).1 ≤ until' := fun z => hc ⟨q, z⟩
            omega
          · omega
        rw [if_pos hN, goR_stop hl hc]
/-- More steps change nothing. -/
theorem goR_more (ho : SpOk up) : ∀ (k m : Nat) (b : Bd), b.l.length ≤ k → b.l.length ≤ m → goR fs up late until' k b = goR fs up late until' m b
  | k, m, b, hk, hm => by
    rcases hl : b.l with _ | ⟨x, r⟩
    · rw [goR_nil hl, goR_nil hl]
    · by_cases hc : (since up x.2.1).2 = true ∧ (since up x.2.1).1 ≤ until'
      · rw [hl, List.length_cons] at hk hm
        obtain ⟨k, rfl⟩ : ∃ k', k = k' + 1 := ⟨k - 1, by omega⟩
        obtain ⟨m, rfl⟩ : ∃ m', m = m' + 1 := ⟨m - 1, by omega⟩
        have hge := since_ge hc.1
        have hlt := turns_less (fs := fs) (late := late) (at' := (since up x.2.1).1) hl hge
        rw [hl, List.length_cons] at hlt
        rw [goR_go hl hc, goR_go hl hc]
        exact goR_more ho k m _ (by omega) (by omega)
      · rw [goR_stop hl hc, goR_stop hl hc]
/-- The end of a run without changes. -/
theorem endB_goR {l : List Entry} {f : List Fact} (hz : runE l [] f up late until' = 0) : endB l [] f up late until' = goR f up late until' l.length (b0 l) ∧ entsE (endB l [] f up late until').l = 0 := by
  obtain ⟨v1, v2, v3, v4, v5, v6⟩ := runE_zero hz
  have hup := spOk_of v4
  have gd := ents_ok v1
  have hbl := gd.most
  have hri : RI [] 0 0 (b0 l) := ⟨v1, (fun y hy => by cases hy), List.Pairwise.nil, by simp [b0]; omega, by simp [b0], by simp [b0], rfl, by simp, Int.le_refl _⟩
  refine ⟨?_, ?_⟩
  · unfold endB
    rw [runR_goR hup.2 v6.1 _ 0 0 (b0 l) hri (fun x hx => (entE_at (gd.each x hx)).1) v6.1]
    exact goR_more hup.2 _ _ _ (by simp [mu, b0]) (by simp [b0])
  · obtain ⟨rest', i', now', h1, h2, h3⟩ := runR_end (fs := f) (late := late) hup.2 v6.1 (P := fun _ _ _ _ => True) (fun _ _ _ _ _ _ _ _ _ => trivial) _ [] 0 0 (b0 l) (Nat.lt_succ_self _) hri (fun y hy => by cases hy) v6.1 trivial
    exact h1.ok
end
end Go.Proofs.P6
end
section
set_option linter.unusedVariables false
set_option linter.unusedSimpArgs false
set_option maxRecDepth 10000
namespace Go.Proofs.P6
open Go.Ex
/-- Outcomes in time. -/
inductive Mt : List Outc → List Entry → Prop
  | nil : Mt [] []
  | cons {o : Outc} {y : Entry} {m : List Outc} {ys : List Entry} (h1 : o.1 = y.1) (h2 : o.2.1 = y.2.1) (h3 : o.2.2 = 1 ∨ o.2.2 = 3) (h : Mt m ys) : Mt (o :: m) (y :: ys)
theorem Mt.app {m m' : List Outc} {ys ys' : List Entry} (h : Mt m ys) (h' : Mt m' ys') : Mt (m ++ m') (ys ++ ys') := by
  induction h with
  | nil => exact h'
  | cons h1 h2 h3 _ ih => exact .cons h1 h2 h3 ih
theorem Mt.len {m : List Outc} {ys : List Entry} (h : Mt m ys) : m.length = ys.length := by
  induction h with
  | nil => rfl
  | cons _ _ _ _ ih => simp [ih]
theorem Mt.get {m : List Outc} {ys : List Entry} (h : Mt m ys) : ∀ {i : Nat} {o : Outc} {y : Entry}, m[i]? = some o → ys[i]? = some y → o.1 = y.1 ∧ o.2.1 = y.2.1 ∧ (o.2.2 = 1 ∨ o.2.2 = 3) := by
  induction h with
  | nil => intro i o y ho; simp at ho
  | cons h1 h2 h3 _ ih =>
    intro i o y ho hy
    cases i with
    | zero =>
      simp at ho hy
      subst ho hy
      exact ⟨h1, h2, h3⟩
    | succ i => exact ih (by simpa using ho) (by simpa using hy)
/-- One comes to the other by turns in time. -/
def Tk (until' : Int) (b b' : Bd) : Prop := ∃ ys m, b.l = ys ++ b'.l ∧ b'.out = b.out ++ m ∧ Mt m ys ∧ b'.off = [] ∧ ∀ y ∈ ys, y.2.1 ≤ until' ∧ y.2.1 < 1000000000000
theorem Tk.refl {until' : Int} {b : Bd} (h : b.off = []) : Tk until' b b := ⟨[], [], rfl, by simp, .nil, h, fun y hy => by cases hy⟩
theorem Tk.trans {until' : Int} {a b c : Bd} (h : Tk until' a b) (h' : Tk until' b c) : Tk until' a c := by
  obtain ⟨ys, m, h1, h2, h3, h4, h5⟩ := h
  obtain ⟨ys', m', g1, g2, g3, g4, g5⟩ := h'
  refine ⟨ys ++ ys', m ++ m', by rw [h1, g1, List.append_assoc], by rw [g2, h2, List.append_assoc], h3.app g3, g4, fun y hy => ?_⟩
  rcases List.mem_append.1 hy with hy | hy
  · exact h5 y hy
  · exact g5 y hy
abbrev up1 : List Span := [(0, 1000000000000)]
theorem since_up1 {n : Int} (h0 : 0 ≤ n) : since up1 n = if n < 1000000000000 then (n, true) else (0, false) := by
  unfold since up1
  by_cases q : n < 1000000000000
  · simp [q]; omega
  · simp [q]
section
variable {fs : List Fact} {late until' : Int}
theorem Tk.turnsN (h0 : 0 ≤ late) {n : Int} (hn : n ≤ until' ∧ n < 1000000000000) : ∀ (k : Nat) {b : Bd}, b.off = [] → (∀ y ∈ b.l, n ≤ y.2.1) → Tk until' b (Bd.turnsN fs late n k b)
  | 0, b, ho, hl => Tk.refl ho
  | k + 1, b, ho, hl => by
    rcases he : b.l with _ | ⟨x, r⟩
    · rw [turnsN_nil he]; exact Tk.refl ho
    · by_cases hx : x.2.1 ≤ n
      · rw [turnsN_go he hx]
        have hxe : x.2.1 = n := by have := hl x (by rw [he]; simp); omega
        refine Tk.trans (b := b.turn fs late n x r) ⟨[x], [(x.1, n, outK fs late b.off x n)], by rw [he]; rfl, rfl, .cons rfl hxe.symm ?_ .nil, ho, fun y hy => by rw [List.mem_singleton.1 hy, hxe]; exact hn⟩ (Tk.turnsN h0 hn k ho fun y hy => hl y (by rw [he]; exact List.mem_cons_of_mem _ hy))
        show outK fs late b.off x n = 1 ∨ outK fs late b.off x n = 3
        rw [ho]
        unfold outK
        have e : (Go.Ex.look x.2.2.2.1 ([] : List (List UInt8 × Bool))).getD false = false := rfl
        rw [if_neg (by rw [e]; simp), if_neg (by omega)]
        split
        · exact .inr rfl
        · rw [if_neg (by omega)]; exact .inl rfl
      · rw [turnsN_stop he hx]; exact Tk.refl ho
theorem Tk.go (h0 : 0 ≤ late) : ∀ (k : Nat) {b : Bd}, b.off = [] → Srt b.l → (∀ y ∈ b.l, 0 ≤ y.2.1) → Tk until' b (goR fs up1 late until' k b)
  | 0, b, ho, hs, hp => Tk.refl ho
  | k + 1, b, ho, hs, hp => by
    rcases he : b.l with _ | ⟨x, r⟩
    · rw [goR_nil he]; exact Tk.refl ho
    · have hx0 := hp x (by rw [he]; simp)
      by_cases hc : (since up1 x.2.1).2 = true ∧ (since up1 x.2.1).1 ≤ until'
      · rw [goR_go he hc]
        have hS := since_up1 hx0
        by_cases q : x.2.1 < 1000000000000
        · rw [if_pos q] at hS
          rw [hS] at hc ⊢
          have h1 := Tk.turnsN (fs := fs) h0 (n := x.2.1) ⟨hc.2, q⟩ b.l.length ho (srt_head hs he)
          have h1' : Tk until' b (b.turns fs late x.2.1) := h1
          obtain ⟨ys, m, g1, g2, g3, g4, g5⟩ := h1
          refine h1'.trans (Tk.go h0 k g4 ?_ fun y hy => hp y ?_)
          · have hsub : (Bd.turnsN fs late x.2.1 b.l.length b).l.Sublist b.l := by
              have : (Bd.turnsN fs late x.2.1 b.l.length b).l.Sublist (ys ++ (Bd.turnsN fs late x.2.1 b.l.length b).l) := List.sublist_append_right _ _
              rwa [← g1] at this
            exact hs.sublist hsub
          · rw [g1]; exact List.mem_append_right _ hy
        · rw [if_neg q] at hS
          rw [hS] at hc
          cases hc.1
      · rw [goR_stop he hc]; exact Tk.refl ho
theorem goR_final {up : List Span} : ∀ (k : Nat) {b : Bd}, b.l.length ≤ k → ∀ y r, (goR fs up late until' k b).l = y :: r → ¬ ((since up y.2.1).2 = true ∧ (since up y.2.1).1 ≤ until')
  | 0, b, hk, y, r, h => by
    have : b.l = [] := List.length_eq_zero_iff.1 (by omega)
    rw [goR_nil this, this] at h
    cases h
  | k + 1, b, hk, y, r, h => by
    rcases he : b.l with _ | ⟨x, r'⟩
    · rw [goR_nil he, he] at h; cases h
    · by_cases hc : (since up x.2.1).2 = true ∧ (since up x.2.1).1 ≤ until'
      · rw [goR_go he hc] at h
        have hlt := turns_less (fs := fs) (late := late) (at' := (since up x.2.1).1) he (since_ge hc.1)
        exact goR_final k (by omega) y r h
      · rw [goR_stop he hc, he] at h
        injection h with h1 h2
        subst h1
        exact hc
theorem time_plain {l : List Entry} (hz : runE l [] fs up1 late until' = 0) : ∃ ys m, l = ys ++ (endB l [] fs up1 late until').l ∧ (endB l [] fs up1 late until').out = m ∧ Mt m ys ∧ (∀ y ∈ ys, y.2.1 ≤ until' ∧ y.2.1 < 1000000000000) ∧
    (∀ y r, (endB l [] fs up1 late until').l = y :: r → ¬ (y.2.1 ≤ until' ∧ y.2.1 < 1000000000000)) := by
  obtain ⟨v1, v2, v3, v4, v5, v6⟩ := runE_zero hz
  have gd := ents_ok v1
  obtain ⟨e1, g1⟩ := endB_goR hz
  have hp : ∀ y ∈ l, 0 ≤ y.2.1 := fun y hy => (entE_at (gd.each y hy)).1
  obtain ⟨ys, m, h1, h2, h3, h4, h5⟩ := Tk.go (fs := fs) (until' := until') v5.1 l.length (b := b0 l) rfl gd.srt hp
  have hf := goR_final (fs := fs) (late := late) (until' := until') (up := up1) l.length (b := b0 l) (Nat.le_refl _)
  rw [← e1] at h1 h2 hf
  refine ⟨ys, m, h1, by rw [h2]; rfl, h3, h5, fun y r he hc => hf y r he ?_⟩
  have hy0 := hp y (by
    have : y ∈ (endB l [] fs up1 late until').l := by rw [he]; simp
    have h1' : l = ys ++ (endB l [] fs up1 late until').l := h1
    rw [h1']
    exact List.mem_append_right _ this)
  rw [since_up1 hy0, if_pos hc.2]
  exact ⟨rfl, hc.1⟩
end
end Go.Proofs.P6
end
section
set_option linter.unusedVariables false
set_option linter.unusedSimpArgs false
set_option maxRecDepth 10000
set_option maxHeartbeats 8000000
namespace Go.Proofs.P6
open Go.Ex
theorem OkF.Wn {sh : Nat → Bool} {f : Nat} {C : Cmd} {ts : List Nat} {nt : Nat} (hf : compF Try.prog sh f = some (C, ts, nt)) {args : List V} (nt0 : args.length ≤ nt) {r : V × List LB}
    (hw : Ex.W Try.prog C (fun e s => endK e (∃ own : List Nat, own.Nodup ∧ expV s.h own (resV ts s.t) = some r.1 ∧ own.mapM (expB s.h own) = some r.2)) ⟨initT args, none0, 0⟩ ⟨⟩ ⟨⟩) (hpb : ∀ b ∈ r.2, V.pureL b.cells = true ∧ b.mp = none) : OkF Try.prog f args r :=
  OkF.of hm hf nt0 (wpA_mono C (fun e s h => by cases e <;> exact h) hw) hpb
/-- What Run answers. -/
def ownR (a : List Outc) (x : List Entry) : V × List LB :=
  if a = [] then (if x = [] then (.tup [.ro 0 [], .em, .int .i64 0], []) else (.tup [.ro 0 [], .sl 0 0 0 x.length none, .int .i64 0], [⟨0, 6, fl entCd x, none⟩]))
  else (if x = [] then (.tup [.sl 0 0 0 a.length none, .em, .int .i64 0], [⟨0, 3, fl outCd a, none⟩]) else (.tup [.sl 0 0 0 a.length none, .sl 1 0 0 x.length none, .int .i64 0], [⟨0, 3, fl outCd a, none⟩, ⟨0, 6, fl entCd x, none⟩]))
theorem Run_own (l : List Entry) (c : List Change) (f : List Fact) (up : List Span) (late until' : Int) (hl : ∀ x ∈ l, entOk x) (hc : ∀ x ∈ c, chOk x) (hz : runE l c f up late until' = 0) :
    OkF Try.prog 41 [rE l, rCh c, rFc f, rSp up, .int .i64 late, .int .i64 until'] (ownR (endB l c f up late until').out (endB l c f up late until').l) := by
  refine OkF.Wn h41 (of_decide_eq_true rfl) ?_ ?_
  · unfold c41
    simp -dsimp
    refine shr_ex (run_ok l c f up late until' hl hc) ?_
    rintro v h' nx' (⟨q, rfl⟩ | ⟨q, rid, lv, ov, dv, rv, wv, oid, tid, tag, rfl, hn, hX, hem, hcl⟩)
    · exact absurd hz q
    have hr := hX.r
    have hao := hX.ao
    have htl := hX.tl
    have htO := hX.tO
    generalize endB l c f up late until' = B at *
    generalize B.out = a at *
    generalize B.l = x at *
    simp -dsimp [hr]
    have pa : V.pureL (fl outCd a) = true := fl_pure _
    have px : V.pureL (fl entCd x) = true := fl_pure _
    unfold ownR
    by_cases za : a = []
    · rw [if_pos za]
      have eo : ∀ own : List Nat, (∀ j ∈ own, ownOf ov ≠ some j) → exp1 h' own ov = some (.ro 0 []) := fun own ho => by
        rcases hao with ⟨rfl, _⟩ | ⟨id, ver, rfl, h1, h2⟩
        · rfl
        · subst za
          have hni : ixOf own id = none := by
            have : id ∉ own := fun hm => ho id hm rfl
            clear ho
            induction own with
            | nil => rfl
            | cons y t ih =>
              have h3 : ¬ y = id := fun e => this (by rw [e]; simp)
              unfold ixOf
              rw [if_neg h3, ih (fun hm => this (List.mem_cons_of_mem _ hm))]
              rfl
          have hnc : own.contains id = false := by
            rw [← Bool.not_eq_true, List.contains_iff_mem]
            intro hm
            exact ho id hm rfl
          have hnc' : id ∉ own := fun hm => ho id hm rfl
          simp [exp1, expC, hni, cellRO, hnc', h2, fl_nil, V.pureL]
      by_cases zx : x = []
      · rw [if_pos zx, hem zx]
        refine ⟨[], .nil, ?_, rfl⟩
        rw [eo [] (fun j hj => by cases hj)]
        rfl
      · obtain ⟨id, rfl, hid⟩ := hcl zx
        rw [if_neg zx]
        refine ⟨[id], by simp, ?_, ?_⟩
        · rw [eo [id] (fun j hj e => by
            rw [List.mem_singleton.1 hj] at e
            have h1 := htO _ e
            have h2 := htl id rfl
            rw [h1] at h2
            cases h2)]
          simp [exp1, expC, hid, ixOf]
        · simp [expB, hid, roL, px]
    · rw [if_neg za]
      obtain ⟨id, ver, rfl, h1, h2⟩ : ∃ id ver, ov = .sl id ver 0 a.length none ∧ id < nx' ∧ h' id = some ⟨ver, 3, fl outCd a, none⟩ := by
        rcases hao with ⟨_, e⟩ | h
        · exact absurd e za
        · exact h
      by_cases zx : x = []
      · rw [if_pos zx, hem zx]
        refine ⟨[id], by simp, ?_, ?_⟩
        · simp [exp1, expC, h2, ixOf]
        · simp [expB, h2, roL, pa]
      · obtain ⟨id2, rfl, hid⟩ := hcl zx
        have hne : ¬ id = id2 := fun e => by
          have h3 := htO id rfl
          have h4 := htl id2 rfl
          rw [e, h4] at h3
          cases h3
        rw [if_neg zx]
        refine ⟨[id, id2], by simp [hne], ?_, ?_⟩
        · simp [exp1, expC, h2, hid, ixOf, hne]
        · simp [expB, h2, hid, roL, pa, px]
  · intro b hb
    unfold ownR at hb
    split at hb <;> split at hb <;> simp at hb
    · subst hb; exact ⟨fl_pure _, rfl⟩
    · subst hb; exact ⟨fl_pure _, rfl⟩
    · rcases hb with rfl | rfl <;> exact ⟨fl_pure _, rfl⟩
end Go.Proofs.P6
end
section
set_option linter.unusedVariables false
set_option linter.unusedSimpArgs false
set_option maxRecDepth 10000
set_option maxHeartbeats 8000000
namespace Go.Proofs.P6
open Go.Ex
structure TM (l : List Entry) (f : List Fact) (late until' : Int) (s : St) : Prop where
  r0 : s.t 0 = rE l
  r1 : s.t 1 = rFc f
  r2 : s.t 2 = .int .i64 late
  r3 : s.t 3 = .int .i64 until'
structure TA (l : List Entry) (f : List Fact) (late until' : Int) (s : St) : Prop where
  m : TM l f late until' s
  h : s.h = none0
  nx : s.nx = 0
theorem oc_roFree : ∀ l : List Outc, roFreeL (fl outCd l) = true
  | [] => rfl
  | x :: l => by
    have := oc_roFree l
    show roFreeL ([.int .i64 x.1, .int .i64 x.2.1, .int .i64 x.2.2] ++ fl outCd l) = true
    simp [roFreeL, roFree, this]
structure TB (l : List Entry) (f : List Fact) (late until' : Int) (s : St) : Prop where
  m : TM l f late until' s
  r9 : s.t 9 = .sl 0 0 0 1 (some 1)
  h : s.h = upd none0 0 (some ⟨0, 2, [V.int .i64 0, V.int .i64 1000000000000], none⟩)
  nx : s.nx = 1
/-- Outcomes that can be read. -/
def RdO (h : Hp) (va : V) (a : List Outc) : Prop := ∀ k o, a[k]? = some o → ∃ id ver off, (∀ K, iaddrK h va (.int .i64 (k : Nat)) 3 K ⟨⟩ = K (.pt id ver off) [id]) ∧ ldA h (.pt id ver off) none = some (.int .i64 o.1) ∧ ldA h (.pt id ver (off + 1)) none = some (.int .i64 o.2.1) ∧ ldA h (.pt id ver (off + 2)) none = some (.int .i64 o.2.2)
theorem RdO.of {h : Hp} {nx : Nat} {va : V} {a : List Outc} (x : Acc outCd h nx va a) : RdO h va a := fun k o e => by
  obtain ⟨id, ver, off, h1, h2, h3, h4, h5, h6⟩ := x.at e (by decide)
  exact ⟨id, ver, off, fun K => h3 .i64 K, h6, h5 1 (by decide), h5 2 (by decide)⟩
structure TC (l : List Entry) (f : List Fact) (late until' : Int) (a : List Outc) (x : List Entry) (s : St) : Prop where
  m : TM l f late until' s
  r12 : s.t 12 = .int .i64 0
  ea : lenA false (s.t 10) = some (.int .i64 a.length)
  ra : RdO s.h (s.t 10) a
  ex : toRO s.h 8 (s.t 11) = some (rE x)
theorem TC.mv {l : List Entry} {f : List Fact} {late until' : Int} {a : List Outc} {x : List Entry} {s s' : St} (c : TC l f late until' a x s) (e : s'.h = s.h) (e0 : s'.t 0 = s.t 0) (e1 : s'.t 1 = s.t 1) (e2 : s'.t 2 = s.t 2) (e3 : s'.t 3 = s.t 3) (e10 : s'.t 10 = s.t 10) (e11 : s'.t 11 = s.t 11) (e12 : s'.t 12 = s.t 12) : TC l f late until' a x s' :=
  ⟨⟨e0.trans c.m.r0, e1.trans c.m.r1, e2.trans c.m.r2, e3.trans c.m.r3⟩, e12.trans c.r12, by rw [e10]; exact c.ea, by rw [e, e10]; exact c.ra, by rw [e, e11]; exact c.ex⟩
theorem SchedulesInTime (l : List Entry) (f : List Fact) (late until' : Int) (hl : ∀ x ∈ l, entOk x) :
    OkF Try.prog 12 [rE l, rFc f, .int .i64 late, .int .i64 until'] (.bool true, []) := by
  have e62 := Go.Ex.e62
  have hnil : ∀ x ∈ ([] : List Change), chOk x := fun x hx => by cases hx
  have p1 := Run_ok l [] f up1 late until' hl hnil
  have p2 := Run_own l [] f up1 late until' hl hnil
  have t1 : ∀ (h : Hp) (n : Nat), toRO (upd h n (some ⟨0, 2, [V.int .i64 0, V.int .i64 1000000000000], none⟩)) 8 (.sl n 0 0 1 (some 1)) = some (.ro 1 [V.int .i64 0, V.int .i64 1000000000000]) := fun h n => by
    simp [toRO, cellRO, V.pureL, V.pure]
  refine OkF.W0 hm h12 (of_decide_eq_true rfl) ?_
  unfold c12
  by_cases q : runE l [] f up1 late until' = 0
  rotate_left
  · have hr : runO l [] f up1 late until' = ([], [], runE l [] f up1 late until') := by unfold runO; rw [if_pos q]
    rw [hr] at p1
    have p1' : OkF Try.prog 41 [rE l, .ro 0 [], rFc f, .ro 1 [.int .i64 0, .int .i64 1000000000000], .int .i64 late, .int .i64 until'] (.tup [.ro 0 [], .ro 0 [], .int .i64 (runE l [] f up1 late until')], []) := p1
    simp -dsimp [fillA, fillS, t1]
    refine call_one p1' (by simp [okRes, roFree, roFreeL]) ?_
    simp -dsimp [q]
    refine call_bool awake_ok ?_
    simp -dsimp
  have p2 := p2 q
  obtain ⟨ys, m, hle, hout, hmt, hP, hN⟩ := time_plain q
  obtain ⟨_, _, _, ve, vl⟩ := once_end q
  rw [hout] at p2
  generalize (endB l [] f up1 late until').l = x at *
  have p2' : OkF Try.prog 41 [rE l, .ro 0 [], rFc f, .ro 1 [.int .i64 0, .int .i64 1000000000000], .int .i64 late, .int .i64 until'] (ownR m x) := p2
  refine W_cut (TA l f late until') ?_ fun s0 h0 => ?_
  · simp -dsimp
    exact ⟨rfl, ⟨by simp -dsimp, by simp -dsimp, by simp -dsimp, by simp -dsimp⟩, rfl, rfl⟩
  refine W_cut (TB l f late until') ?_ fun s1 h1 => ?_
  · obtain ⟨⟨r0, r1, r2, r3⟩, rh, rn⟩ := h0
    simp -dsimp [fillA, fillS]
    exact ⟨rfl, ⟨by simp -dsimp [r0], by simp -dsimp [r1], by simp -dsimp [r2], by simp -dsimp [r3]⟩, by simp -dsimp [rn], by simp -dsimp [rn, rh], by simp -dsimp [rn]⟩
  refine W_cut (TC l f late until' m x) ?_ fun s2 h2 => ?_
  · obtain ⟨⟨r0, r1, r2, r3⟩, r9, rh, rn⟩ := h1
    simp -dsimp [r0, r1, r2, r3, r9, rh, rn, t1]
    unfold ownR at p2'
    by_cases za : m = []
    · subst za
      rw [if_pos rfl] at p2'
      by_cases zx : x = []
      · subst zx
        rw [if_pos rfl] at p2'
        refine call_own p2' (by simp [okRes, roFree, roFreeL]) ?_
        simp -dsimp [shift, shiftL, addB]
        exact ⟨rfl, ⟨by simp -dsimp [r0], by simp -dsimp [r1], by simp -dsimp [r2], by simp -dsimp [r3]⟩, by simp -dsimp, rfl, fun k o e => by simp at e, rfl⟩
      · rw [if_neg zx] at p2'
        refine call_own p2' (by simp [okRes, roFree, roFreeL, ent_roFree]) ?_
        simp -dsimp [shift, shiftL, addB]
        refine ⟨rfl, ⟨by simp -dsimp [r0], by simp -dsimp [r1], by simp -dsimp [r2], by simp -dsimp [r3]⟩, by simp -dsimp, rfl, fun k o e => by simp at e, ?_⟩
        simp -dsimp
        exact Acc.ro (d := entCd) (nx := 2) (l := x) (Acc.mk (by omega) (upd_self _ _ _)) (n := 7)
    · rw [if_neg za] at p2'
      by_cases zx : x = []
      · subst zx
        rw [if_pos rfl] at p2'
        refine call_own p2' (by simp [okRes, roFree, roFreeL, oc_roFree]) ?_
        simp -dsimp [shift, shiftL, addB]
        refine ⟨rfl, ⟨by simp -dsimp [r0], by simp -dsimp [r1], by simp -dsimp [r2], by simp -dsimp [r3]⟩, by simp -dsimp, rfl, ?_, rfl⟩
        simp -dsimp
        exact RdO.of (nx := 2) (Acc.mk (l := m) (by omega) (upd_self _ _ _))
      · rw [if_neg zx] at p2'
        refine call_own p2' (by simp [okRes, roFree, roFreeL, oc_roFree, ent_roFree]) ?_
        simp -dsimp [shift, shiftL, addB]
        refine ⟨rfl, ⟨by simp -dsimp [r0], by simp -dsimp [r1], by simp -dsimp [r2], by simp -dsimp [r3]⟩, by simp -dsimp, rfl, ?_, ?_⟩
        · simp -dsimp
          exact RdO.of (nx := 3) (Acc.mk (l := m) (by omega) (by simp [upd]; rfl))
        · simp -dsimp
          exact Acc.ro (d := entCd) (nx := 3) (l := x) (Acc.mk (by omega) (upd_self _ _ _)) (n := 7)
  have hlen : ys.length + x.length = l.length := by rw [hle, List.length_append]
  have hml := hmt.len
  have hll := ents_le (runE_zero q).1
  have hdrop : l.drop ys.length = x := by rw [hle, List.drop_left]
  have r12 := h2.r12
  simp -dsimp [r12]
  refine loop_to 13 ys.length (fun k s => s.t 13 = .int .i64 k ∧ TC l f late until' m x s) (fun k s h => h.1) ⟨by simp -dsimp, h2.mv rfl (by simp -dsimp) (by simp -dsimp) (by simp -dsimp) (by simp -dsimp) (by simp -dsimp) (by simp -dsimp) (by simp -dsimp)⟩ (fun k s hk hI => ?_)
  obtain ⟨i13, hT⟩ := hI
  have hT' := hT
  obtain ⟨⟨r0, r1, r2, r3⟩, r12, ea, ra, ex⟩ := hT
  unfold l12_0
  by_cases hlt : k < ys.length
  · have hg : l[k]? = some ys[k] := by rw [hle, List.getElem?_append_left hlt]; exact List.getElem?_eq_getElem hlt
    obtain ⟨p1, p2⟩ := hP ys[k] (List.getElem_mem hlt)
    generalize ys[k] = y at *
    have hw : IntKind.i64.wrap ((k : Int) + 1) = (k : Int) + 1 := IntWalk.i64_in _ (by omega)
    have hkl : k < l.length := by omega
    simp -dsimp [i13, r0, r3, hkl, ent_ia hg, ent_l1 hg, p1, p2, hw]
    exact ⟨hlt, hT'.mv rfl (by simp -dsimp) (by simp -dsimp) (by simp -dsimp) (by simp -dsimp) (by simp -dsimp) (by simp -dsimp) (by simp -dsimp)⟩
  have hke : k = ys.length := by omega
  subst hke
  have heq := equalEnt_ok x x (by omega)
  have hsl : ∀ h nx K, slcK false (rE l) (some (.int .i64 (ys.length : Nat))) none 6 h nx K ⟨⟩ = K (rE x) h nx (some []) (some []) := fun h nx K => by
    have := sliceLo (h := h) (nx := nx) (K := K) (l := l) (n := ys.length) (by omega)
    rw [hdrop] at this
    exact this
  rw [hml] at ea
  rcases hx : x with _ | ⟨y, r⟩
  · have hkl : ¬ ys.length < l.length := by rw [hx] at hlen; simp at hlen; omega
    simp -dsimp [i13, r0, r3, hkl, ea, hsl, ex]
    refine call_bool heq ?_
    simp -dsimp [i13]
    refine loop_to 14 ys.length (fun k s => s.t 14 = .int .i64 k ∧ s.t 13 = .int .i64 (ys.length : Nat) ∧ TC l f late until' m x s) (fun k s h => h.1) ⟨by simp -dsimp, by simp -dsimp [i13], hT'.mv rfl (by simp -dsimp) (by simp -dsimp) (by simp -dsimp) (by simp -dsimp) (by simp -dsimp) (by simp -dsimp) (by simp -dsimp)⟩ (fun k s6 hk6 hI => ?_)
    obtain ⟨i14, j13, hT6⟩ := hI
    have hT6' := hT6
    obtain ⟨⟨z0, z1, z2, z3⟩, z12, za, zr, zx⟩ := hT6
    unfold l12_1
    by_cases hlt : k < ys.length
    · have hgm : m[k]? = some (m[k]'(by omega)) := List.getElem?_eq_getElem (by omega)
      have hgy : ys[k]? = some ys[k] := List.getElem?_eq_getElem hlt
      have hgl : l[k]? = some ys[k] := by rw [hle, List.getElem?_append_left hlt]; exact hgy
      obtain ⟨c1, c2, c3⟩ := hmt.get hgm hgy
      obtain ⟨id, ver, off, d1, d2, d3, d4⟩ := zr k _ hgm
      generalize (m[k]'(by omega)) = o at *
      generalize ys[k] = w at *
      have hw : IntKind.i64.wrap ((k : Int) + 1) = (k : Int) + 1 := IntWalk.i64_in _ (by omega)
      by_cases c4 : o.2.2 = 1
      · simp -dsimp [i14, j13, z0, hlt, d1, d2, d3, d4, ent_ia hgl, ent_l0 hgl, ent_l1 hgl, c1, c2, c4, hw]
        exact hT6'.mv rfl (by simp -dsimp) (by simp -dsimp) (by simp -dsimp) (by simp -dsimp) (by simp -dsimp) (by simp -dsimp) (by simp -dsimp)
      · have c5 : o.2.2 = 3 := c3.resolve_left c4
        simp -dsimp [i14, j13, z0, hlt, d1, d2, d3, d4, ent_ia hgl, ent_l0 hgl, ent_l1 hgl, c1, c2, c5, hw]
        exact hT6'.mv rfl (by simp -dsimp) (by simp -dsimp) (by simp -dsimp) (by simp -dsimp) (by simp -dsimp) (by simp -dsimp) (by simp -dsimp)
    have hke : k = ys.length := by omega
    subst hke
    simp -dsimp [i14, j13]
    refine call_bool awake_ok ?_
    simp -dsimp
  · have hkl : ys.length < l.length := by rw [hx] at hlen; simp at hlen; omega
    have hg : l[ys.length]? = some y := by rw [hle, List.getElem?_append_right (Nat.le_refl _), Nat.sub_self, hx]; rfl
    have hny := hN y r hx
    by_cases p1 : y.2.1 ≤ until'
    · have p2 : ¬ y.2.1 < 1000000000000 := fun z => hny ⟨p1, z⟩
      simp -dsimp [i13, r0, r3, hkl, ent_ia hg, ent_l1 hg, p1, p2, ea, hsl, ex]
      refine call_bool heq ?_
      simp -dsimp [i13]
      refine loop_to 14 ys.length (fun k s => s.t 14 = .int .i64 k ∧ s.t 13 = .int .i64 (ys.length : Nat) ∧ TC l f late until' m x s) (fun k s h => h.1) ⟨by simp -dsimp, by simp -dsimp [i13], hT'.mv rfl (by simp -dsimp) (by simp -dsimp) (by simp -dsimp) (by simp -dsimp) (by simp -dsimp) (by simp -dsimp) (by simp -dsimp)⟩ (fun k s6 hk6 hI => ?_)
      obtain ⟨i14, j13, hT6⟩ := hI
      have hT6' := hT6
      obtain ⟨⟨z0, z1, z2, z3⟩, z12, za, zr, zx⟩ := hT6
      unfold l12_1
      by_cases hlt : k < ys.length
      · have hgm : m[k]? = some (m[k]'(by omega)) := List.getElem?_eq_getElem (by omega)
        have hgy : ys[k]? = some ys[k] := List.getElem?_eq_getElem hlt
        have hgl : l[k]? = some ys[k] := by rw [hle, List.getElem?_append_left hlt]; exact hgy
        obtain ⟨c1, c2, c3⟩ := hmt.get hgm hgy
        obtain ⟨id, ver, off, d1, d2, d3, d4⟩ := zr k _ hgm
        generalize (m[k]'(by omega)) = o at *
        generalize ys[k] = w at *
        have hw : IntKind.i64.wrap ((k : Int) + 1) = (k : Int) + 1 := IntWalk.i64_in _ (by omega)
        by_cases c4 : o.2.2 = 1
        · simp -dsimp [i14, j13, z0, hlt, d1, d2, d3, d4, ent_ia hgl, ent_l0 hgl, ent_l1 hgl, c1, c2, c4, hw]
          exact hT6'.mv rfl (by simp -dsimp) (by simp -dsimp) (by simp -dsimp) (by simp -dsimp) (by simp -dsimp) (by simp -dsimp) (by simp -dsimp)
        · have c5 : o.2.2 = 3 := c3.resolve_left c4
          simp -dsimp [i14, j13, z0, hlt, d1, d2, d3, d4, ent_ia hgl, ent_l0 hgl, ent_l1 hgl, c1, c2, c5, hw]
          exact hT6'.mv rfl (by simp -dsimp) (by simp -dsimp) (by simp -dsimp) (by simp -dsimp) (by simp -dsimp) (by simp -dsimp) (by simp -dsimp)
      have hke : k = ys.length := by omega
      subst hke
      simp -dsimp [i14, j13]
      refine call_bool awake_ok ?_
      simp -dsimp
    · simp -dsimp [i13, r0, r3, hkl, ent_ia hg, ent_l1 hg, p1, ea, hsl, ex]
      refine call_bool heq ?_
      simp -dsimp [i13]
      refine loop_to 14 ys.length (fun k s => s.t 14 = .int .i64 k ∧ s.t 13 = .int .i64 (ys.length : Nat) ∧ TC l f late until' m x s) (fun k s h => h.1) ⟨by simp -dsimp, by simp -dsimp [i13], hT'.mv rfl (by simp -dsimp) (by simp -dsimp) (by simp -dsimp) (by simp -dsimp) (by simp -dsimp) (by simp -dsimp) (by simp -dsimp)⟩ (fun k s6 hk6 hI => ?_)
      obtain ⟨i14, j13, hT6⟩ := hI
      have hT6' := hT6
      obtain ⟨⟨z0, z1, z2, z3⟩, z12, za, zr, zx⟩ := hT6
      unfold l12_1
      by_cases hlt : k < ys.length
      · have hgm : m[k]? = some (m[k]'(by omega)) := List.getElem?_eq_getElem (by omega)
        have hgy : ys[k]? = some ys[k] := List.getElem?_eq_getElem hlt
        have hgl : l[k]? = some ys[k] := by rw [hle, List.getElem?_append_left hlt]; exact hgy
        obtain ⟨c1, c2, c3⟩ := hmt.get hgm hgy
        obtain ⟨id, ver, off, d1, d2, d3, d4⟩ := zr k _ hgm
        generalize (m[k]'(by omega)) = o at *
        generalize ys[k] = w at *
        have hw : IntKind.i64.wrap ((k : Int) + 1) = (k : Int) + 1 := IntWalk.i64_in _ (by omega)
        by_cases c4 : o.2.2 = 1
        · simp -dsimp [i14, j13, z0, hlt, d1, d2, d3, d4, ent_ia hgl, ent_l0 hgl, ent_l1 hgl, c1, c2, c4, hw]
          exact hT6'.mv rfl (by simp -dsimp) (by simp -dsimp) (by simp -dsimp) (by simp -dsimp) (by simp -dsimp) (by simp -dsimp) (by simp -dsimp)
        · have c5 : o.2.2 = 3 := c3.resolve_left c4
          simp -dsimp [i14, j13, z0, hlt, d1, d2, d3, d4, ent_ia hgl, ent_l0 hgl, ent_l1 hgl, c1, c2, c5, hw]
          exact hT6'.mv rfl (by simp -dsimp) (by simp -dsimp) (by simp -dsimp) (by simp -dsimp) (by simp -dsimp) (by simp -dsimp) (by simp -dsimp)
      have hke : k = ys.length := by omega
      subst hke
      simp -dsimp [i14, j13]
      refine call_bool awake_ok ?_
      simp -dsimp
end Go.Proofs.P6
end
