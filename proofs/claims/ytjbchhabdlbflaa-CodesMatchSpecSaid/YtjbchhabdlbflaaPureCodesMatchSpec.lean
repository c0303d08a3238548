/- Code and ReadCode answer as the reference does, with all errors, for every time and all bytes; no condition. -/
import Derived.Laws.BitsAllLaws
import Derived.Test.YtjbchhabdlbflaaQCodesMatchSpecx2
import Derived.Test.YtjbchhabdlbflaaWSized
set_option linter.unusedVariables false
set_option linter.unusedSimpArgs false
/-- The printed row names this lemma without the seat's own words' namespace. -/
abbrev Go.Proofs.Ytjbchhabdlbflaa.PrintWords.sized_ints := @Go.Proofs.YtjbchhabdlbflaaW.PrintWords.sized_ints
namespace Go.Proofs.Ytjbchhabdlbflaa.Pure
open Go.RowKit Go.Proofs.Ytjbchhabdlbflaa.QCodesMatchSpec Go.Proofs.YtjbchhabdlbflaaW.PrintWords Go.Proofs.YtjbchhabdlbflaaW.PrintLast Go.Proofs.YtjbchhabdlbflaaW.PrintMore

theorem w64 {x : Int} (h0 : -9223372036854775808 ≤ x) (h1 : x ≤ 9223372036854775807) : wrap64 x = x := by unfold wrap64; omega
theorem Ev.pos {α : Type} {c : Prop} [Decidable c] {f g : Nat → Option α} {r : α} (h : c) (k : Ev f r) : Ev (fun n => if c then f n else g n) r := by
  simp only [if_pos h]; exact k
theorem Ev.neg {α : Type} {c : Prop} [Decidable c] {f g : Nat → Option α} {r : α} (h : ¬ c) (k : Ev g r) : Ev (fun n => if c then f n else g n) r := by
  simp only [if_neg h]; exact k
theorem tdiv_neg_of {x d : Int} (hx : 0 ≤ x) : Int.tdiv (-x) d = -(x / d) := by rw [Int.neg_tdiv, Int.tdiv_eq_ediv_of_nonneg hx]
theorem tmod_neg_of {x d : Int} (hx : 0 ≤ x) : Int.tmod (-x) d = -(x % d) := by rw [Int.neg_tmod, Int.tmod_eq_emod_of_nonneg hx]
theorem up_eq {x d : Int} (hx : 0 ≤ x) (hx1 : x ≤ 4611686018427387904) (hd : 0 < d) : kit_Up.f x d = some (if x % d = 0 then x / d else x / d + 1) := by
  have h1 := Int.ediv_nonneg hx (Int.le_of_lt hd)
  have h2 := Int.ediv_le_self d hx
  have h3 := Int.emod_nonneg x (show d ≠ 0 by omega)
  unfold kit_Up.f kit_Down.f
  rw [w64 (show -9223372036854775808 ≤ -x by omega) (by omega), if_neg (show ¬ d = 0 by omega), tmod_neg_of hx, tdiv_neg_of hx, w64 (show -9223372036854775808 ≤ -(x / d) by omega) (by omega), w64 (show -9223372036854775808 ≤ -(x / d) - 1 by omega) (by omega)]
  by_cases h : x % d = 0
  · rw [if_neg (by omega), Option.bind_some, if_pos h, w64 (by omega) (by omega), Int.neg_neg]
  · rw [if_pos (by omega), Option.bind_some, if_neg h, w64 (by omega) (by omega)]
    congr 1
    omega
theorem In_eq (a lo hi : Int) : kit_In.f a lo hi = some (decide (lo ≤ a ∧ a ≤ hi)) := by
  unfold kit_In.f
  split
  · rename_i h; simp [h]
  · rename_i h; simp [h]
theorem within_eq (a lo hi : Int) : perigeeref2_within.f a lo hi = some (decide (lo ≤ a ∧ a ≤ hi)) := by
  unfold perigeeref2_within.f
  split
  · rename_i h; simp [h]
  · rename_i h; simp only [Option.some.injEq, Bool.false_eq, decide_eq_false_iff_not]; omega
theorem awake_ev : Ev (fun k => perigeelaw2_awake.f k) true := Ev.of perigeelaw2_awake.mono (k := 5) (by decide +kernel)
theorem code_same (a : Int) : ∃ r, clock_Code.f a = some r ∧ perigeeref2_Code.f a = some r := by
  unfold clock_Code.f perigeeref2_Code.f
  rw [In_eq, within_eq, Option.bind_some]
  by_cases h : 0 ≤ a ∧ a ≤ 1000000000000
  · exact ⟨_, if_pos (decide_eq_true h), if_pos (decide_eq_true h)⟩
  · exact ⟨_, if_neg (by simpa using h), if_neg (by simpa using h)⟩
theorem wrap_i64 (n : Int) (h₀ : 0 ≤ n) (h₁ : n < 2 ^ 62) : IntKind.i64.wrap n = n := by rw [IntKind.wrap_i64]; omega
theorem join8 {x c : Int} (hx : 0 ≤ x) (hx1 : x ≤ 4294967295) (hc : 0 ≤ c) (hc1 : c ≤ 255) : Go.bits .or .i64 (wrap64 (x * 256)) (wrap64 c) = x * 256 + c := by
  rw [w64 (by omega) (by omega), w64 (by omega) (by omega)]
  exact bits_join .i64 62 (by decide) wrap_i64 8 _ _ (by omega) (by omega) (by omega) (by omega) (by omega) (by omega)
/-- What ReadCode answers of six bytes. -/
def readS (b0 b1 b2 b3 b4 b5 : Int) : Int × Int :=
  let rest := b4 * 256 + b5
  let n := (rest * 1000 + 65535) / 65536
  if n > 999 ∨ n * 65536 / 1000 ≠ rest then (0, 3)
  else if (((b0 * 256 + b1) * 256 + b2) * 256 + b3) * 1000 + n > 1000000000000 then (0, 1)
  else ((((b0 * 256 + b1) * 256 + b2) * 256 + b3) * 1000 + n, 0)
theorem read_ev (b0 b1 b2 b3 b4 b5 : Int) (h0 : 0 ≤ b0 ∧ b0 ≤ 255) (h1 : 0 ≤ b1 ∧ b1 ≤ 255) (h2 : 0 ≤ b2 ∧ b2 ≤ 255) (h3 : 0 ≤ b3 ∧ b3 ≤ 255) (h4 : 0 ≤ b4 ∧ b4 ≤ 255) (h5 : 0 ≤ b5 ∧ b5 ≤ 255) :
    Ev (fun k => clock_ReadCode.f k [b0, b1, b2, b3, b4, b5]) (readS b0 b1 b2 b3 b4 b5) := by
  unfold clock_ReadCode.f
  refine Ev.pos rfl (Ev.pos (by simp) (Ev.pos (by simp) (Ev.pos (by simp) ?_)))
  have r4 : rd [b0, b1, b2, b3, b4, b5] 4 = b4 := rfl
  have r5 : rd [b0, b1, b2, b3, b4, b5] 5 = b5 := rfl
  rw [r4, r5, w64 (show -9223372036854775808 ≤ b4 by omega) (by omega), join8 h4.1 (by omega) h5.1 h5.2]
  have tk : cut_ 4 [b0, b1, b2, b3, b4, b5] = [b0, b1, b2, b3] := rfl
  rw [tk]
  have step : ∀ (x i c : Int) (j : Int), 0 ≤ i → i < 4 → rd [b0, b1, b2, b3] i = c → 0 ≤ c → c ≤ 255 → 0 ≤ x → x ≤ 16777215 → j = i + 1 →
      ∀ r, Ev (fun k => clock_ReadCode.l0 k (x * 256 + c) (b4 * 256 + b5) [b0, b1, b2, b3] 4 j) r → Ev (fun k => clock_ReadCode.l0 k x (b4 * 256 + b5) [b0, b1, b2, b3] 4 i) r := by
    intro x i c j hi0 hi1 hc hc0 hc1 hx0 hx1 hj r H
    refine Ev.step (fun k => by rw [clock_ReadCode.l0]) ?_
    refine Ev.pos (by omega) (Ev.pos (by omega) (Ev.pos (by simp; omega) ?_))
    rw [hc, join8 hx0 (by omega) hc0 hc1, w64 (show -9223372036854775808 ≤ i + 1 by omega) (by omega), ← hj]
    exact H
  show Ev (fun k => clock_ReadCode.l0 k 0 (b4 * 256 + b5) [b0, b1, b2, b3] 4 0) _
  refine step 0 0 b0 1 (by omega) (by omega) rfl h0.1 h0.2 (by omega) (by omega) rfl _ ?_
  refine step _ 1 b1 2 (by omega) (by omega) rfl h1.1 h1.2 (by omega) (by omega) rfl _ ?_
  refine step _ 2 b2 3 (by omega) (by omega) rfl h2.1 h2.2 (by omega) (by omega) rfl _ ?_
  refine step _ 3 b3 4 (by omega) (by omega) rfl h3.1 h3.2 (by omega) (by omega) rfl _ ?_
  rw [show (0 * 256 + b0) = b0 by omega]
  refine Ev.step (fun k => by rw [clock_ReadCode.l0]) ?_
  refine Ev.neg (by omega) ?_
  rw [w64 (show -9223372036854775808 ≤ (b4 * 256 + b5) * 1000 by omega) (by omega), up_eq (by omega) (by omega) (by decide)]
  simp only [Option.bind_some]
  have e : (if (b4 * 256 + b5) * 1000 % 65536 = 0 then (b4 * 256 + b5) * 1000 / 65536 else (b4 * 256 + b5) * 1000 / 65536 + 1) = ((b4 * 256 + b5) * 1000 + 65535) / 65536 := by
    split <;> omega
  rw [e]
  unfold readS
  dsimp only
  generalize hn : ((b4 * 256 + b5) * 1000 + 65535) / 65536 = n
  have hn0 : 0 ≤ n := by omega
  have hn1 : n ≤ 1000 := by omega
  have fin : ∀ (t : Bool), (t = true ↔ n > 999 ∨ n * 65536 / 1000 ≠ b4 * 256 + b5) →
      Ev (fun k => clock_ReadCode.j1 k (((b0 * 256 + b1) * 256 + b2) * 256 + b3) n t) (if n > 999 ∨ n * 65536 / 1000 ≠ b4 * 256 + b5 then ((0, 3) : Int × Int)
        else if (((b0 * 256 + b1) * 256 + b2) * 256 + b3) * 1000 + n > 1000000000000 then (0, 1)
        else ((((b0 * 256 + b1) * 256 + b2) * 256 + b3) * 1000 + n, 0)) := by
    intro t ht
    refine Ev.step (fun k => by rw [clock_ReadCode.j1]) ?_
    rw [w64 (show -9223372036854775808 ≤ (((b0 * 256 + b1) * 256 + b2) * 256 + b3) * 1000 by omega) (by omega), w64 (show -9223372036854775808 ≤ (((b0 * 256 + b1) * 256 + b2) * 256 + b3) * 1000 + n by omega) (by omega)]
    by_cases hc : n > 999 ∨ n * 65536 / 1000 ≠ b4 * 256 + b5
    · rw [if_pos hc]
      exact Ev.pos (ht.mpr hc) (Ev.now _)
    · rw [if_neg hc]
      refine Ev.neg (fun h => hc (ht.mp h)) ?_
      by_cases hb : (((b0 * 256 + b1) * 256 + b2) * 256 + b3) * 1000 + n > 1000000000000
      · refine Ev.pos hb ?_
        rw [if_pos hb]
        exact Ev.now _
      · refine Ev.neg hb ?_
        rw [if_neg hb]
        exact Ev.now _
  by_cases hc : n ≥ 1000
  · exact Ev.pos hc (fin true (by simp; omega))
  · refine Ev.neg hc ?_
    rw [w64 (show -9223372036854775808 ≤ n * 65536 by omega) (by omega), Int.tdiv_eq_ediv_of_nonneg (by omega), w64 (show -9223372036854775808 ≤ n * 65536 / 1000 by omega) (by omega)]
    exact fin _ (by simp; omega)
theorem ref_read_ev (b0 b1 b2 b3 b4 b5 : Int) (h0 : 0 ≤ b0 ∧ b0 ≤ 255) (h1 : 0 ≤ b1 ∧ b1 ≤ 255) (h2 : 0 ≤ b2 ∧ b2 ≤ 255) (h3 : 0 ≤ b3 ∧ b3 ≤ 255) (h4 : 0 ≤ b4 ∧ b4 ≤ 255) (h5 : 0 ≤ b5 ∧ b5 ≤ 255) :
    Ev (fun k => perigeeref2_ReadCode.f k [b0, b1, b2, b3, b4, b5]) (readS b0 b1 b2 b3 b4 b5) := by
  unfold perigeeref2_ReadCode.f
  refine Ev.pos rfl (Ev.pos (by simp) (Ev.pos (by simp) (Ev.pos (by simp) (Ev.pos (by simp) (Ev.pos (by simp) (Ev.pos (by simp) ?_))))))
  have r0 : rd [b0, b1, b2, b3, b4, b5] 0 = b0 := rfl
  have r1 : rd [b0, b1, b2, b3, b4, b5] 1 = b1 := rfl
  have r2 : rd [b0, b1, b2, b3, b4, b5] 2 = b2 := rfl
  have r3 : rd [b0, b1, b2, b3, b4, b5] 3 = b3 := rfl
  have r4 : rd [b0, b1, b2, b3, b4, b5] 4 = b4 := rfl
  have r5 : rd [b0, b1, b2, b3, b4, b5] 5 = b5 := rfl
  rw [r0, r1, r2, r3, r4, r5]
  rw [w64 (show -9223372036854775808 ≤ b0 by omega) (by omega), w64 (show -9223372036854775808 ≤ b1 by omega) (by omega), w64 (show -9223372036854775808 ≤ b2 by omega) (by omega), w64 (show -9223372036854775808 ≤ b3 by omega) (by omega), w64 (show -9223372036854775808 ≤ b4 by omega) (by omega), w64 (show -9223372036854775808 ≤ b5 by omega) (by omega)]
  rw [w64 (show -9223372036854775808 ≤ b4 * 256 by omega) (by omega), w64 (show -9223372036854775808 ≤ b4 * 256 + b5 by omega) (by omega), w64 (show -9223372036854775808 ≤ (b4 * 256 + b5) * 1000 by omega) (by omega), w64 (show -9223372036854775808 ≤ (b4 * 256 + b5) * 1000 + 65535 by omega) (by omega)]
  rw [Int.tdiv_eq_ediv_of_nonneg (show 0 ≤ (b4 * 256 + b5) * 1000 + 65535 by omega)]
  rw [w64 (show -9223372036854775808 ≤ b0 * 16777216 by omega) (by omega), w64 (show -9223372036854775808 ≤ b1 * 65536 by omega) (by omega), w64 (show -9223372036854775808 ≤ b2 * 256 by omega) (by omega)]
  rw [w64 (show -9223372036854775808 ≤ b0 * 16777216 + b1 * 65536 by omega) (by omega), w64 (show -9223372036854775808 ≤ b0 * 16777216 + b1 * 65536 + b2 * 256 by omega) (by omega), w64 (show -9223372036854775808 ≤ b0 * 16777216 + b1 * 65536 + b2 * 256 + b3 by omega) (by omega)]
  rw [w64 (show -9223372036854775808 ≤ ((b4 * 256 + b5) * 1000 + 65535) / 65536 by omega) (by omega)]
  rw [show b0 * 16777216 + b1 * 65536 + b2 * 256 + b3 = ((b0 * 256 + b1) * 256 + b2) * 256 + b3 by omega]
  unfold readS
  dsimp only
  generalize hn : ((b4 * 256 + b5) * 1000 + 65535) / 65536 = n
  have hn0 : 0 ≤ n := by omega
  have hn1 : n ≤ 1000 := by omega
  have fin : ∀ (t : Bool), (t = true ↔ n > 999 ∨ n * 65536 / 1000 ≠ b4 * 256 + b5) →
      Ev (fun k => perigeeref2_ReadCode.j0 k (((b0 * 256 + b1) * 256 + b2) * 256 + b3) n t) (if n > 999 ∨ n * 65536 / 1000 ≠ b4 * 256 + b5 then ((0, 3) : Int × Int)
        else if (((b0 * 256 + b1) * 256 + b2) * 256 + b3) * 1000 + n > 1000000000000 then (0, 1)
        else ((((b0 * 256 + b1) * 256 + b2) * 256 + b3) * 1000 + n, 0)) := by
    intro t ht
    refine Ev.step (fun k => by rw [perigeeref2_ReadCode.j0]) ?_
    rw [w64 (show -9223372036854775808 ≤ (((b0 * 256 + b1) * 256 + b2) * 256 + b3) * 1000 by omega) (by omega), w64 (show -9223372036854775808 ≤ (((b0 * 256 + b1) * 256 + b2) * 256 + b3) * 1000 + n by omega) (by omega)]
    by_cases hc : n > 999 ∨ n * 65536 / 1000 ≠ b4 * 256 + b5
    · rw [if_pos hc]
      exact Ev.pos (ht.mpr hc) (Ev.now _)
    · rw [if_neg hc]
      refine Ev.neg (fun h => hc (ht.mp h)) ?_
      by_cases hb : (((b0 * 256 + b1) * 256 + b2) * 256 + b3) * 1000 + n > 1000000000000
      · refine Ev.pos hb ?_
        rw [if_pos hb]
        exact Ev.now _
      · refine Ev.neg hb ?_
        rw [if_neg hb]
        exact Ev.now _
  by_cases hc : n > 999
  · exact Ev.pos hc (fin true (by simp; omega))
  · refine Ev.neg hc ?_
    rw [w64 (show -9223372036854775808 ≤ n * 65536 by omega) (by omega), Int.tdiv_eq_ediv_of_nonneg (by omega), w64 (show -9223372036854775808 ≤ n * 65536 / 1000 by omega) (by omega)]
    exact fin _ (by simp; omega)
theorem wf8 {x : Int} (h : (Lit.int .u8 x).wf = true) : 0 ≤ x ∧ x ≤ 255 := by
  simp only [Lit.wf, IntKind.min, IntKind.max, IntKind.signed, IntKind.bits, Bool.and_eq_true, decide_eq_true_eq, Bool.false_eq_true, if_false] at h
  omega
theorem read_same (l : List Int) (hw : ∀ x ∈ l, (Lit.int .u8 x).wf = true) : ∃ r, Ev (fun k => clock_ReadCode.f k l) r ∧ Ev (fun k => perigeeref2_ReadCode.f k l) r := by
  by_cases h : l.length = 6
  · obtain ⟨b0, b1, b2, b3, b4, b5, rfl⟩ : ∃ b0 b1 b2 b3 b4 b5, l = [b0, b1, b2, b3, b4, b5] := by
      match l, h with
      | [b0, b1, b2, b3, b4, b5], _ => exact ⟨b0, b1, b2, b3, b4, b5, rfl⟩
    have hb : ∀ x ∈ [b0, b1, b2, b3, b4, b5], 0 ≤ x ∧ x ≤ 255 := fun x hx => wf8 (hw x hx)
    exact ⟨_, read_ev b0 b1 b2 b3 b4 b5 (hb _ (by simp)) (hb _ (by simp)) (hb _ (by simp)) (hb _ (by simp)) (hb _ (by simp)) (hb _ (by simp)), ref_read_ev b0 b1 b2 b3 b4 b5 (hb _ (by simp)) (hb _ (by simp)) (hb _ (by simp)) (hb _ (by simp)) (hb _ (by simp)) (hb _ (by simp))⟩
  · refine ⟨(0, 3), ?_, ?_⟩
    · unfold clock_ReadCode.f
      exact Ev.neg (by omega) (Ev.now _)
    · unfold perigeeref2_ReadCode.f
      exact Ev.neg (by omega) (Ev.now _)
theorem CodesMatchSpec : perigeelaw2_CodesMatchSpec.Pure := by
  intro a l _ _ _ hw
  refine Ev.rounds (g := fun k => perigeelaw2_CodesMatchSpec.f k a l) ?_
  unfold perigeelaw2_CodesMatchSpec.f
  obtain ⟨r, hr, hr'⟩ := code_same a
  obtain ⟨q, hq, hq'⟩ := read_same l hw
  simp only [hr, hr', Option.bind_some]
  refine Ev.bind hq (Ev.bind hq' ?_)
  unfold bytes_Equal.f
  simp only [Option.bind_some, beq_self_eq_true, if_true]
  exact Ev.bind awake_ev (Ev.now _)

end Go.Proofs.Ytjbchhabdlbflaa.Pure
