/- By more marks what a moment can have been is not more: for every clock, all marks, every tick and every number of marks; no condition. -/
import Derived.Laws.BitsAllLaws
import Derived.Test.YtjbchhabdlbflaaQClocksWindowsShrinkx4
import Derived.Test.YtjbchhabdlbflaaWSized
set_option linter.unusedVariables false
set_option linter.unusedSimpArgs false
/-- The printed row names this lemma without the seat's own words' namespace. -/
abbrev Go.Proofs.Ytjbchhabdlbflaa.PrintWords.sized_ints := @Go.Proofs.YtjbchhabdlbflaaW.PrintWords.sized_ints
namespace Go.Proofs.Ytjbchhabdlbflaa.Pure
open Go.RowKit Go.Proofs.Ytjbchhabdlbflaa.QClocksWindowsShrink Go.Proofs.YtjbchhabdlbflaaW.PrintWords Go.Proofs.YtjbchhabdlbflaaW.PrintLast Go.Proofs.YtjbchhabdlbflaaW.PrintMore

/-! ### plain words: numbers, lists, rounds -/
theorem wf64 {x : Int} (h : (Lit.int .i64 x).wf = true) : -9223372036854775808 ≤ x ∧ x ≤ 9223372036854775807 := by
  simp only [Lit.wf, IntKind.min, IntKind.max, IntKind.signed, IntKind.bits, Bool.and_eq_true, decide_eq_true_eq, if_true] at h
  omega
theorem w64 {x : Int} (h0 : -9223372036854775808 ≤ x) (h1 : x ≤ 9223372036854775807) : wrap64 x = x := by unfold wrap64; omega
theorem rd_mid (pre : List Int) (n : Int) (t : List Int) : rd (pre ++ n :: t) (pre.length : Int) = n := by
  simp [rd]
theorem rd_mid' (pre : List Int) (n : Int) (t : List Int) {i : Int} (hi : i = (pre.length : Int)) : rd (pre ++ n :: t) i = n := by
  subst hi; exact rd_mid pre n t
theorem Ev.pos {α : Type} {c : Prop} [Decidable c] {f g : Nat → Option α} {r : α} (h : c) (k : Ev f r) : Ev (fun n => if c then f n else g n) r := by
  simp only [if_pos h]; exact k
theorem Ev.neg {α : Type} {c : Prop} [Decidable c] {f g : Nat → Option α} {r : α} (h : ¬ c) (k : Ev g r) : Ev (fun n => if c then f n else g n) r := by
  simp only [if_neg h]; exact k
theorem Ev.some {α : Type} {a r : α} (h : a = r) : Ev (fun _ => Option.some a) r := by subst h; exact Ev.now _
theorem In_eq (a lo hi : Int) : kit_In.f a lo hi = some (decide (lo ≤ a ∧ a ≤ hi)) := by
  unfold kit_In.f
  split
  · rename_i h; simp [h]
  · rename_i h; simp [h]
theorem awake_ev : Ev (fun k => perigeelaw2_awake.f k) true := Ev.of perigeelaw2_awake.mono (k := 5) (by decide +kernel)
/-! ### kit.Down and kit.Up at numbers that are not below 0 -/
theorem tdiv_neg_of {x d : Int} (hx : 0 ≤ x) : Int.tdiv (-x) d = -(x / d) := by rw [Int.neg_tdiv, Int.tdiv_eq_ediv_of_nonneg hx]
theorem tmod_neg_of {x d : Int} (hx : 0 ≤ x) : Int.tmod (-x) d = -(x % d) := by rw [Int.neg_tmod, Int.tmod_eq_emod_of_nonneg hx]
theorem down_eq {x d : Int} (hx : 0 ≤ x) (hx1 : x ≤ 4611686018427387904) (hd : 0 < d) : kit_Down.f x d = some (x / d) := by
  have h1 := Int.ediv_nonneg hx (Int.le_of_lt hd)
  have h2 := Int.ediv_le_self d hx
  have h3 := Int.emod_nonneg x (show d ≠ 0 by omega)
  unfold kit_Down.f
  rw [if_neg (by omega), Int.tmod_eq_emod_of_nonneg hx, if_neg (by omega), Int.tdiv_eq_ediv_of_nonneg hx, w64 (by omega) (by omega)]
theorem up_eq {x d : Int} (hx : 0 ≤ x) (hx1 : x ≤ 4611686018427387904) (hd : 0 < d) : kit_Up.f x d = some (if x % d = 0 then x / d else x / d + 1) := by
  have h1 := Int.ediv_nonneg hx (Int.le_of_lt hd)
  have h2 := Int.ediv_le_self d hx
  have h3 := Int.emod_nonneg x (show d ≠ 0 by omega)
  unfold kit_Up.f kit_Down.f
  rw [w64 (show -9223372036854775808 ≤ -x by omega) (by omega), if_neg (show ¬ d = 0 by omega), tmod_neg_of hx, tdiv_neg_of hx, w64 (show -9223372036854775808 ≤ -(x / d) by omega) (by omega), w64 (show -9223372036854775808 ≤ -(x / d) - 1 by omega) (by omega)]
  by_cases h : x % d = 0
  · rw [if_neg (by omega), Option.bind_some, if_pos h, w64 (by omega) (by omega), Int.neg_neg]
  · rw [if_pos (by omega), Option.bind_some, if_neg h, w64 (by omega) (by omega)]
    congr 1
    omega
/-! ### marks: CheckMarks -/
theorem rdT_mid (pre : List S48) (x : S48) (t : List S48) : rd_T48 (pre ++ x :: t) (pre.length : Int) = x := by
  simp [rd_T48]
theorem rdT_mid' (pre : List S48) (x : S48) (t : List S48) {i : Int} (hi : i = (pre.length : Int)) : rd_T48 (pre ++ x :: t) i = x := by
  subst hi; exact rdT_mid pre x t
def markOk (x : S48) : Prop := (0 ≤ x.f0 ∧ x.f0 ≤ 1000000000000) ∧ (0 ≤ x.f1 ∧ x.f1 ≤ 1000000000000) ∧ (0 ≤ x.f2 ∧ x.f2 ≤ 1000000000)
instance (x : S48) : Decidable (markOk x) := by unfold markOk; exact inferInstance
def marksGo : Int → Int → List S48 → Int
  | _, _, [] => 0
  | p, q, x :: t => if markOk x then (if x.f0 ≤ p ∨ x.f1 ≤ q then 8 else marksGo x.f0 x.f1 t) else 1
def marksS (m : List S48) : Int := if m.length = 0 then 9 else if m.length > 2000 then 2 else marksGo (-1) (-1) m
theorem marks_loop (m : List S48) (hm : m.length ≤ 2000) : ∀ (t pre : List S48) (p q : Int), m = pre ++ t → (pre.length = 0 → p = -1 ∧ q = -1) → (0 < pre.length → (rd_T48 m ((pre.length : Int) - 1)).f0 = p ∧ (rd_T48 m ((pre.length : Int) - 1)).f1 = q) →
    Ev (fun k => clock_CheckMarks.l0 k m m m.length pre.length) (marksGo p q t)
  | [], pre, p, q, hp, _, _ => by
    refine Ev.step (fun k => by rw [clock_CheckMarks.l0]) ?_
    exact Ev.neg (by rw [hp]; simp) (Ev.now _)
  | x :: t, pre, p, q, hp, h0, h1 => by
    have hlen : pre.length < m.length := by rw [hp]; simp
    have hrd : rd_T48 m pre.length = x := by rw [hp]; exact rdT_mid ..
    have hw : wrap64 ((pre.length : Int) + 1) = ((pre ++ [x]).length : Int) := by rw [w64 (by omega) (by omega)]; simp
    have ih := marks_loop m hm t (pre ++ [x]) x.f0 x.f1 (by simp [hp]) (by simp) (fun _ => by
      have e : ((pre ++ [x]).length : Int) - 1 = pre.length := by simp
      rw [e, hrd]; exact ⟨rfl, rfl⟩)
    refine Ev.step (fun k => by rw [clock_CheckMarks.l0]) ?_
    simp only [hrd, In_eq, Option.bind_some]
    refine Ev.pos (by omega) (Ev.pos (by omega) (Ev.pos (by omega) ?_))
    unfold marksGo
    have tail : ∀ b : Bool, (b = true ↔ ¬ markOk x) → Ev (fun k => clock_CheckMarks.j1 k m pre.length m m.length pre.length b x.f0 x.f1 x.f2) (if markOk x then (if x.f0 ≤ p ∨ x.f1 ≤ q then 8 else marksGo x.f0 x.f1 t) else 1) := by
      intro b hb
      refine Ev.step (fun k => by rw [clock_CheckMarks.j1]) ?_
      by_cases hok : markOk x
      · refine Ev.neg (fun h => (hb.mp h) hok) ?_
        rw [if_pos hok, hw]
        have hok' := hok
        unfold markOk at hok'
        by_cases hz : pre.length = 0
        · obtain ⟨rfl, rfl⟩ := h0 hz
          rw [if_neg (by omega)]
          exact Ev.neg (by omega) ih
        · obtain ⟨e0, e1⟩ := h1 (by omega)
          rw [w64 (show -9223372036854775808 ≤ (pre.length : Int) - 1 by omega) (by omega), e0, e1]
          refine Ev.pos (by omega) (Ev.pos (by omega) (Ev.pos (by omega) ?_))
          by_cases c0 : x.f0 ≤ p
          · rw [if_pos (.inl c0)]
            exact Ev.pos c0 (Ev.now _)
          · refine Ev.neg c0 ?_
            by_cases c1 : x.f1 ≤ q
            · rw [if_pos (.inr c1)]
              exact Ev.pos c1 (Ev.now _)
            · rw [if_neg (by omega)]
              exact Ev.neg c1 ih
      · rw [if_neg hok]
        exact Ev.pos (hb.mpr hok) (Ev.now _)
    by_cases c0 : 0 ≤ x.f0 ∧ x.f0 ≤ 1000000000000
    · refine Ev.pos (by simpa using c0) ?_
      by_cases c1 : 0 ≤ x.f1 ∧ x.f1 ≤ 1000000000000
      · refine Ev.pos (by simpa using c1) ?_
        refine tail _ ?_
        unfold markOk
        simp [c0, c1]
        omega
      · refine Ev.neg (by simpa using c1) (tail true ?_)
        unfold markOk
        simp only [true_iff]
        exact fun h => c1 h.2.1
    · refine Ev.neg (by simpa using c0) (tail true ?_)
      unfold markOk
      simp only [true_iff]
      exact fun h => c0 h.1
theorem marks_ev (m : List S48) : Ev (fun k => clock_CheckMarks.f k m) (marksS m) := by
  unfold clock_CheckMarks.f marksS
  by_cases h0 : m.length = 0
  · rw [if_pos h0]
    exact Ev.pos (by omega) (Ev.now _)
  · rw [if_neg h0]
    refine Ev.neg (by omega) ?_
    by_cases h1 : m.length > 2000
    · rw [if_pos h1]
      exact Ev.pos (by omega) (Ev.now _)
    · rw [if_neg h1]
      refine Ev.neg (by omega) ?_
      exact marks_loop m (by omega) m [] (-1) (-1) rfl (fun _ => ⟨rfl, rfl⟩) (fun h => by simp at h)
theorem marksGo_take : ∀ (t : List S48) (p q : Int) (n : Nat), marksGo p q t = 0 → marksGo p q (t.take n) = 0
  | [], p, q, n, _ => by simp [marksGo]
  | x :: t, p, q, 0, _ => by simp [marksGo]
  | x :: t, p, q, n + 1, h => by
    rw [List.take_succ_cons]
    unfold marksGo at h ⊢
    split at h
    · rename_i h1
      split at h
      · cases h
      · rename_i h2
        rw [if_pos h1, if_neg h2]
        exact marksGo_take t x.f0 x.f1 n h
    · cases h
theorem marksGo_ok : ∀ (t : List S48) (p q : Int), marksGo p q t = 0 → ∀ x ∈ t, markOk x
  | y :: t, p, q, h, x, hx => by
    unfold marksGo at h
    split at h
    · rename_i h1
      split at h
      · cases h
      · rcases List.mem_cons.mp hx with rfl | hx
        · exact h1
        · exact marksGo_ok t _ _ h x hx
    · cases h
theorem marksS_ok {m : List S48} (h : marksS m = 0) : 0 < m.length ∧ m.length ≤ 2000 ∧ marksGo (-1) (-1) m = 0 := by
  unfold marksS at h
  split at h
  · cases h
  · split at h
    · cases h
    · exact ⟨by omega, by omega, h⟩
theorem marksS_range (m : List S48) : 0 ≤ marksS m ∧ marksS m ≤ 9 := by
  have go : ∀ (t : List S48) (p q : Int), 0 ≤ marksGo p q t ∧ marksGo p q t ≤ 9 := by
    intro t
    induction t with
    | nil => intro p q; simp [marksGo]
    | cons x t ih =>
      intro p q
      unfold marksGo
      split
      · split
        · omega
        · exact ih _ _
      · omega
  unfold marksS
  split
  · omega
  · split
    · omega
    · exact go ..
/-! ### clocks: windows -/
def clockS (s f : Int) : Int := if (1 ≤ s ∧ s ≤ 1000000) ∧ (1 ≤ f ∧ f ≤ 1000000) then (if f < s then 8 else 0) else 1
theorem clock_ev (s f : Int) : Ev (fun k => clock_CheckClock.f k s f) (clockS s f) := by
  unfold clock_CheckClock.f clockS
  simp only [In_eq, Option.bind_some]
  have tail : ∀ b : Bool, (b = true ↔ ¬ ((1 ≤ s ∧ s ≤ 1000000) ∧ (1 ≤ f ∧ f ≤ 1000000))) → Ev (fun k => clock_CheckClock.j0 k b s f) (if (1 ≤ s ∧ s ≤ 1000000) ∧ (1 ≤ f ∧ f ≤ 1000000) then (if f < s then 8 else 0) else 1) := by
    intro b hb
    refine Ev.step (fun k => by rw [clock_CheckClock.j0]) ?_
    by_cases h : (1 ≤ s ∧ s ≤ 1000000) ∧ (1 ≤ f ∧ f ≤ 1000000)
    · refine Ev.neg (fun e => (hb.mp e) h) ?_
      rw [if_pos h]
      by_cases c : f < s
      · refine Ev.pos c ?_; rw [if_pos c]; exact Ev.now _
      · refine Ev.neg c ?_; rw [if_neg c]; exact Ev.now _
    · rw [if_neg h]
      exact Ev.pos (hb.mpr h) (Ev.now _)
  by_cases c0 : 1 ≤ s ∧ s ≤ 1000000
  · refine Ev.pos (by simpa using c0) (tail _ ?_)
    simp [c0]
    omega
  · refine Ev.neg (by simpa using c0) (tail true ?_)
    simp only [true_iff]
    exact fun h => c0 h.1
theorem clockS_ok {s f : Int} (h : clockS s f = 0) : 1 ≤ s ∧ s ≤ f ∧ f ≤ 1000000 := by
  unfold clockS at h
  split at h
  · split at h
    · cases h
    · omega
  · cases h
theorem range_eq (a lo hi : Int) : kit_Range.f a lo hi = some (if lo ≤ a ∧ a ≤ hi then 0 else 1) := by
  unfold kit_Range.f
  rw [In_eq, Option.bind_some]
  by_cases h : lo ≤ a ∧ a ≤ hi
  · simp [h]
  · simp only [decide_eq_false h, Bool.false_eq_true, if_false, if_neg h]
def firstS : List Int → Int
  | [] => 0
  | a :: t => if a = 0 then firstS t else a
theorem first_loop (l : List Int) (hl : l.length ≤ 1000) : ∀ (t pre : List Int), l = pre ++ t → Ev (fun k => kit_First.l0 k l l.length pre.length) (firstS t)
  | [], pre, hp => by
    refine Ev.step (fun k => by rw [kit_First.l0]) ?_
    exact Ev.neg (by rw [hp]; simp) (Ev.now _)
  | a :: t, pre, hp => by
    have hlen : pre.length < l.length := by rw [hp]; simp
    have hrd : rd l pre.length = a := by rw [hp]; exact rd_mid ..
    refine Ev.step (fun k => by rw [kit_First.l0]) ?_
    simp only [hrd]
    refine Ev.pos (by omega) (Ev.pos (by omega) (Ev.pos (by omega) ?_))
    unfold firstS
    by_cases h : a = 0
    · rw [if_pos h]
      refine Ev.pos h ?_
      have hw : wrap64 ((pre.length : Int) + 1) = ((pre ++ [a]).length : Int) := by rw [w64 (by omega) (by omega)]; simp
      rw [hw]
      exact first_loop l hl t (pre ++ [a]) (by simp [hp])
    · rw [if_neg h]
      exact Ev.neg h (Ev.now _)
theorem first_ev (l : List Int) (hl : l.length ≤ 1000) : Ev (fun k => kit_First.f k l) (firstS l) := first_loop l hl l [] rfl
/-- From when to when the time at a tick can be by one mark. -/
def byS (s f : Int) (x : S48) (tick : Int) : Int × Int :=
  if x.f0 ≤ tick then (x.f1 - x.f2 + (tick - x.f0) * s / 1000000, x.f1 + x.f2 + ((tick - x.f0) * f + 999999) / 1000000)
  else (x.f1 - x.f2 - ((x.f0 - tick) * f + 999999) / 1000000, x.f1 + x.f2 - (x.f0 - tick) * s / 1000000)
theorem mul_range {d s : Int} (h0 : 0 ≤ d) (h1 : d ≤ 1000000000000) (h2 : 1 ≤ s) (h3 : s ≤ 1000000) : 0 ≤ d * s ∧ d * s ≤ 1000000000000000000 := by
  refine ⟨Int.mul_nonneg h0 (by omega), ?_⟩
  calc d * s ≤ d * 1000000 := Int.mul_le_mul_of_nonneg_left h3 h0
    _ ≤ 1000000000000000000 := by omega
theorem by_eq {s f tick : Int} {x : S48} (hx : markOk x) (hs : 1 ≤ s ∧ s ≤ 1000000) (hf : 1 ≤ f ∧ f ≤ 1000000) (h0 : 0 ≤ tick) (h1 : tick ≤ 1000000000000) :
    clock_by.f s f x.f0 x.f1 x.f2 tick = some (byS s f x tick) := by
  obtain ⟨⟨a0, a1⟩, ⟨b0, b1⟩, ⟨c0, c1⟩⟩ := hx
  unfold clock_by.f byS
  rw [w64 (show -9223372036854775808 ≤ tick - x.f0 by omega) (by omega)]
  rw [w64 (show -9223372036854775808 ≤ x.f1 - x.f2 by omega) (by omega), w64 (show -9223372036854775808 ≤ x.f1 + x.f2 by omega) (by omega)]
  by_cases h : x.f0 ≤ tick
  · rw [if_pos (by omega), if_pos h]
    obtain ⟨m0, m1⟩ := mul_range (d := tick - x.f0) (by omega) (by omega) hs.1 hs.2
    obtain ⟨n0, n1⟩ := mul_range (d := tick - x.f0) (by omega) (by omega) hf.1 hf.2
    generalize (tick - x.f0) * s = u at *
    generalize (tick - x.f0) * f = v at *
    rw [w64 (show -9223372036854775808 ≤ u by omega) (by omega), w64 (show -9223372036854775808 ≤ v by omega) (by omega), down_eq m0 (by omega) (by decide), up_eq n0 (by omega) (by decide)]
    simp only [Option.bind_some]
    have e : (if v % 1000000 = 0 then v / 1000000 else v / 1000000 + 1) = (v + 999999) / 1000000 := by split <;> omega
    rw [e, w64 (by omega) (by omega), w64 (by omega) (by omega)]
  · rw [if_neg (by omega), if_neg h]
    rw [w64 (show -9223372036854775808 ≤ x.f0 - tick by omega) (by omega)]
    obtain ⟨m0, m1⟩ := mul_range (d := x.f0 - tick) (by omega) (by omega) hs.1 hs.2
    obtain ⟨n0, n1⟩ := mul_range (d := x.f0 - tick) (by omega) (by omega) hf.1 hf.2
    generalize (x.f0 - tick) * s = u at *
    generalize (x.f0 - tick) * f = v at *
    rw [w64 (show -9223372036854775808 ≤ u by omega) (by omega), w64 (show -9223372036854775808 ≤ v by omega) (by omega), down_eq m0 (by omega) (by decide), up_eq n0 (by omega) (by decide)]
    simp only [Option.bind_some]
    have e : (if v % 1000000 = 0 then v / 1000000 else v / 1000000 + 1) = (v + 999999) / 1000000 := by split <;> omega
    rw [e, w64 (by omega) (by omega), w64 (by omega) (by omega)]
def winGo (s f tick : Int) : Int → Int → List S48 → Int × Int
  | a, b, [] => (a, b)
  | a, b, x :: t => winGo s f tick (mx a (byS s f x tick).1) (mn b (byS s f x tick).2) t
def winErr (s f : Int) (m : List S48) (tick : Int) : Int := firstS [clockS s f, marksS m, if 0 ≤ tick ∧ tick ≤ 1000000000000 then 0 else 1]
def winOf (s f : Int) (m : List S48) (tick : Int) : Int × Int :=
  match m with
  | [] => (0, 0)
  | x :: t => winGo s f tick (byS s f x tick).1 (byS s f x tick).2 t
def winS (s f : Int) (m : List S48) (tick : Int) : Int × Int × Int :=
  if winErr s f m tick = 0 then (if (winOf s f m tick).2 < (winOf s f m tick).1 then (0, 0, 12) else ((winOf s f m tick).1, (winOf s f m tick).2, 0)) else (0, 0, winErr s f m tick)
theorem winErr_ok {s f : Int} {m : List S48} {tick : Int} (h : winErr s f m tick = 0) : clockS s f = 0 ∧ marksS m = 0 ∧ 0 ≤ tick ∧ tick ≤ 1000000000000 := by
  unfold winErr at h
  have hc : clockS s f = 0 := Classical.byContradiction fun c => by simp [firstS, c] at h
  have hm : marksS m = 0 := Classical.byContradiction fun c => by simp [firstS, hc, c] at h
  have ht : 0 ≤ tick ∧ tick ≤ 1000000000000 := Classical.byContradiction fun c => by rw [if_neg c] at h; simp [firstS, hc, hm] at h
  exact ⟨hc, hm, ht⟩
theorem win_loop {s f tick : Int} (hs : 1 ≤ s ∧ s ≤ 1000000) (hf : 1 ≤ f ∧ f ≤ 1000000) (h0 : 0 ≤ tick) (h1 : tick ≤ 1000000000000) (l : List S48) (hl : l.length ≤ 2000) (hok : ∀ x ∈ l, markOk x) :
    ∀ (t pre : List S48) (a b : Int), l = pre ++ t → Ev (fun k => clock_Window.l0 k tick a b l l.length pre.length s f) (let w := winGo s f tick a b t; if w.2 < w.1 then (0, 0, 12) else (w.1, w.2, 0))
  | [], pre, a, b, hp => by
    refine Ev.step (fun k => by rw [clock_Window.l0]) ?_
    refine Ev.neg (by rw [hp]; simp) ?_
    by_cases h : b < a
    · exact Ev.pos h (Ev.some (by simp [winGo, h]))
    · exact Ev.neg h (Ev.some (by simp [winGo, h]))
  | x :: t, pre, a, b, hp => by
    have hlen : pre.length < l.length := by rw [hp]; simp
    have hrd : rd_T48 l pre.length = x := by rw [hp]; exact rdT_mid ..
    have hw : wrap64 ((pre.length : Int) + 1) = ((pre ++ [x]).length : Int) := by rw [w64 (by omega) (by omega)]; simp
    refine Ev.step (fun k => by rw [clock_Window.l0]) ?_
    simp only [hrd, by_eq (hok x (by rw [hp]; simp)) hs hf h0 h1, Option.bind_some]
    refine Ev.pos (by omega) (Ev.pos (by omega) (Ev.pos (by omega) ?_))
    rw [hw]
    exact win_loop hs hf h0 h1 l hl hok t (pre ++ [x]) _ _ (by simp [hp])
theorem win_ev (s f : Int) (m : List S48) (tick : Int) : Ev (fun k => clock_Window.f k s f m tick) (winS s f m tick) := by
  unfold clock_Window.f
  refine Ev.bind (clock_ev s f) (Ev.bind (marks_ev m) ?_)
  simp only [range_eq, Option.bind_some]
  refine Ev.bind (first_ev _ (by simp)) ?_
  show Ev (fun k => if winErr s f m tick = 0 then _ else _) _
  unfold winS
  by_cases h : winErr s f m tick = 0
  · rw [if_pos h]
    refine Ev.pos h ?_
    obtain ⟨hc, hm, ht⟩ := winErr_ok h
    have hc' := clockS_ok hc
    have hs : 1 ≤ s ∧ s ≤ 1000000 := by omega
    have hf : 1 ≤ f ∧ f ≤ 1000000 := by omega
    obtain ⟨l0, l1, hg⟩ := marksS_ok hm
    have hok := marksGo_ok m _ _ hg
    cases m with
    | nil => simp at l0
    | cons x t =>
      refine Ev.pos (by omega) ?_
      have hr : rd_T48 (x :: t) 0 = x := rfl
      simp only [hr, by_eq (hok x (by simp)) hs hf ht.1 ht.2, Option.bind_some, List.drop_succ_cons, List.drop_zero]
      refine Ev.pos (by simp only [List.length_cons]; omega) ?_
      exact win_loop hs hf ht.1 ht.2 t (by simp at l1; omega) (fun y hy => hok y (by simp [hy])) t [] _ _ rfl
  · rw [if_neg h]
    exact Ev.neg h (Ev.now _)
/-! ### the law -/
theorem winGo_le (s f tick : Int) : ∀ (t : List S48) (a b : Int), a ≤ (winGo s f tick a b t).1 ∧ (winGo s f tick a b t).2 ≤ b
  | [], a, b => ⟨Int.le_refl _, Int.le_refl _⟩
  | x :: t, a, b => by
    obtain ⟨h1, h2⟩ := winGo_le s f tick t (mx a (byS s f x tick).1) (mn b (byS s f x tick).2)
    unfold winGo
    refine ⟨Int.le_trans ?_ h1, Int.le_trans h2 ?_⟩
    · unfold mx; split <;> omega
    · unfold mn; split <;> omega
theorem winGo_append (s f tick : Int) : ∀ (t u : List S48) (a b : Int), winGo s f tick a b (t ++ u) = winGo s f tick (winGo s f tick a b t).1 (winGo s f tick a b t).2 u
  | [], u, a, b => rfl
  | x :: t, u, a, b => by
    rw [List.cons_append]
    exact winGo_append s f tick t u _ _
theorem win_err {s f : Int} {m : List S48} {tick : Int} (h : (winS s f m tick).2.2 ≠ 0) : (winS s f m tick).1 = 0 ∧ (winS s f m tick).2.1 = 0 := by
  unfold winS at h ⊢
  by_cases he : winErr s f m tick = 0
  · rw [if_pos he] at h ⊢
    by_cases hlt : (winOf s f m tick).2 < (winOf s f m tick).1
    · rw [if_pos hlt]; exact ⟨rfl, rfl⟩
    · rw [if_neg hlt] at h; exact absurd rfl h
  · rw [if_neg he]; exact ⟨rfl, rfl⟩
theorem win_good {s f : Int} {m : List S48} {tick : Int} (h : (winS s f m tick).2.2 = 0) : winErr s f m tick = 0 ∧ (winOf s f m tick).1 ≤ (winOf s f m tick).2 ∧ winS s f m tick = ((winOf s f m tick).1, (winOf s f m tick).2, 0) := by
  unfold winS at h ⊢
  by_cases he : winErr s f m tick = 0
  · rw [if_pos he] at h ⊢
    by_cases hlt : (winOf s f m tick).2 < (winOf s f m tick).1
    · rw [if_pos hlt] at h; exact absurd h (by decide)
    · rw [if_neg hlt]; exact ⟨he, by omega, rfl⟩
  · rw [if_neg he] at h; exact absurd h he
theorem ClocksWindowsShrink : perigeelaw2_ClocksWindowsShrink.Pure := by
  intro s f m tick n _ _ hm _ _
  refine Ev.rounds (g := fun k => perigeelaw2_ClocksWindowsShrink.f k s f m tick n) ?_
  unfold perigeelaw2_ClocksWindowsShrink.f
  have fin : Ev (fun k => (perigeelaw2_awake.f k).bind fun t => some t) true := Ev.bind awake_ev (Ev.now _)
  have tail : ∀ b : Bool, (b = true ↔ ¬ (1 ≤ n ∧ n ≤ m.length)) → Ev (fun k => perigeelaw2_ClocksWindowsShrink.j0 k m tick n b s f) true := by
    intro b hb
    refine Ev.step (fun k => by rw [perigeelaw2_ClocksWindowsShrink.j0]) ?_
    by_cases h : 1 ≤ n ∧ n ≤ m.length
    · refine Ev.neg (fun e => (hb.mp e) h) (Ev.pos (by omega) (Ev.pos (by omega) ?_))
      refine Ev.bind (win_ev ..) (Ev.bind (win_ev ..) ?_)
      have hj1 : ∀ b : Bool, (b = true ↔ (winS s f (m.take n.toNat) tick).2.2 ≠ 0 ∨ (winS s f m tick).2.2 ≠ 0) → Ev (fun k => perigeelaw2_ClocksWindowsShrink.j1 k (winS s f (m.take n.toNat) tick).1 (winS s f (m.take n.toNat) tick).2.1 (winS s f (m.take n.toNat) tick).2.2 (winS s f m tick).1 (winS s f m tick).2.1 b) true := by
        intro b hb
        refine Ev.step (fun k => by rw [perigeelaw2_ClocksWindowsShrink.j1]) ?_
        by_cases hw : (winS s f (m.take n.toNat) tick).2.2 ≠ 0 ∨ (winS s f m tick).2.2 ≠ 0
        · refine Ev.pos (hb.mpr hw) ?_
          by_cases h2 : (winS s f (m.take n.toNat) tick).2.2 = 0
          · exact Ev.pos h2 fin
          · obtain ⟨e1, e2⟩ := win_err h2
            exact Ev.neg h2 (Ev.pos e1 (Ev.pos e2 fin))
        · refine Ev.neg (fun e => hw (hb.mp e)) ?_
          have w1 : (winS s f (m.take n.toNat) tick).2.2 = 0 := Classical.byContradiction fun e => hw (.inl e)
          have w2 : (winS s f m tick).2.2 = 0 := Classical.byContradiction fun e => hw (.inr e)
          obtain ⟨_, g1, e1⟩ := win_good w1
          obtain ⟨_, g2, e2⟩ := win_good w2
          rw [e1, e2]
          cases m with
          | nil => simp at h; omega
          | cons x t =>
            obtain ⟨j, hj⟩ : ∃ j : Nat, n.toNat = j + 1 := ⟨n.toNat - 1, by omega⟩
            rw [hj, List.take_succ_cons] at g1 ⊢
            simp only [winOf] at g1 g2 ⊢
            have ea := winGo_append s f tick (t.take j) (t.drop j) (byS s f x tick).1 (byS s f x tick).2
            rw [List.take_append_drop] at ea
            have le := winGo_le s f tick (t.drop j) (winGo s f tick (byS s f x tick).1 (byS s f x tick).2 (t.take j)).1 (winGo s f tick (byS s f x tick).1 (byS s f x tick).2 (t.take j)).2
            rw [← ea] at le
            exact Ev.pos le.1 (Ev.pos le.2 (Ev.pos (by omega) fin))
      by_cases h2 : (winS s f (m.take n.toNat) tick).2.2 = 0
      · refine Ev.pos h2 (hj1 _ ?_)
        simp [h2]
      · refine Ev.neg h2 (hj1 true ?_)
        simp [h2]
    · exact Ev.pos (hb.mpr h) fin
  by_cases h : n < 1
  · exact Ev.pos h (tail true (by simp; omega))
  · exact Ev.neg h (tail _ (by simp; omega))

end Go.Proofs.Ytjbchhabdlbflaa.Pure
