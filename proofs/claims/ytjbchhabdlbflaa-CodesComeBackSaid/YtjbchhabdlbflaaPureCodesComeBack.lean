/- A time is read from its code, codes are in the order of their times, and what is read has this code. -/
import Derived.Laws.BitsAllLaws
import Derived.Test.YtjbchhabdlbflaaQCodesComeBackx2
import Derived.Test.YtjbchhabdlbflaaWSized
set_option linter.unusedVariables false
set_option linter.unusedSimpArgs false
/-- The printed row names this lemma without the seat's own words' namespace. -/
abbrev Go.Proofs.Ytjbchhabdlbflaa.PrintWords.sized_ints := @Go.Proofs.YtjbchhabdlbflaaW.PrintWords.sized_ints
namespace Go.Proofs.Ytjbchhabdlbflaa.Pure
open Go.RowKit Go.Proofs.Ytjbchhabdlbflaa.QCodesComeBack Go.Proofs.YtjbchhabdlbflaaW.PrintWords Go.Proofs.YtjbchhabdlbflaaW.PrintLast Go.Proofs.YtjbchhabdlbflaaW.PrintMore

theorem w64 {x : Int} (h0 : -9223372036854775808 ≤ x) (h1 : x ≤ 9223372036854775807) : wrap64 x = x := by unfold wrap64; omega
theorem Ev.pos {α : Type} {c : Prop} [Decidable c] {f g : Nat → Option α} {r : α} (h : c) (k : Ev f r) : Ev (fun n => if c then f n else g n) r := by
  simp only [if_pos h]; exact k
theorem Ev.neg {α : Type} {c : Prop} [Decidable c] {f g : Nat → Option α} {r : α} (h : ¬ c) (k : Ev g r) : Ev (fun n => if c then f n else g n) r := by
  simp only [if_neg h]; exact k
theorem tdiv_neg_of {x d : Int} (hx : 0 ≤ x) : Int.tdiv (-x) d = -(x / d) := by rw [Int.neg_tdiv, Int.tdiv_eq_ediv_of_nonneg hx]
theorem tmod_neg_of {x d : Int} (hx : 0 ≤ x) : Int.tmod (-x) d = -(x % d) := by rw [Int.neg_tmod, Int.tmod_eq_emod_of_nonneg hx]
theorem up_eq {x d : Int} (hx : 0 ≤ x) (hx1 : x ≤ 4611686018427387904) (hd : 0 < d) : kit_Up.f x d = some (if x % d = 0 then x / d else x / d + 1) := by
  have h1 := Int.ediv_nonneg hx (Int.le_of_lt hd)
  have h2 := Int.ediv_le_self d hx
  have h3 := Int.emod_nonneg x (show d ≠ 0 by omega)
  unfold kit_Up.f kit_Down.f
  rw [w64 (show -9223372036854775808 ≤ -x by omega) (by omega), if_neg (show ¬ d = 0 by omega), tmod_neg_of hx, tdiv_neg_of hx, w64 (show -9223372036854775808 ≤ -(x / d) by omega) (by omega), w64 (show -9223372036854775808 ≤ -(x / d) - 1 by omega) (by omega)]
  by_cases h : x % d = 0
  · rw [if_neg (by omega), Option.bind_some, if_pos h, w64 (by omega) (by omega), Int.neg_neg]
  · rw [if_pos (by omega), Option.bind_some, if_neg h, w64 (by omega) (by omega)]
    congr 1
    omega
theorem In_eq (a lo hi : Int) : kit_In.f a lo hi = some (decide (lo ≤ a ∧ a ≤ hi)) := by
  unfold kit_In.f
  split
  · rename_i h; simp [h]
  · rename_i h; simp [h]
theorem awake_ev : Ev (fun k => perigeelaw2_awake.f k) true := Ev.of perigeelaw2_awake.mono (k := 5) (by decide +kernel)
theorem wrap_i64 (n : Int) (h₀ : 0 ≤ n) (h₁ : n < 2 ^ 62) : IntKind.i64.wrap n = n := by rw [IntKind.wrap_i64]; omega
theorem join8 {x c : Int} (hx : 0 ≤ x) (hx1 : x ≤ 4294967295) (hc : 0 ≤ c) (hc1 : c ≤ 255) : Go.bits .or .i64 (wrap64 (x * 256)) (wrap64 c) = x * 256 + c := by
  rw [w64 (by omega) (by omega), w64 (by omega) (by omega)]
  exact bits_join .i64 62 (by decide) wrap_i64 8 _ _ (by omega) (by omega) (by omega) (by omega) (by omega) (by omega)
/-- What ReadCode answers of six bytes. -/
def readS (b0 b1 b2 b3 b4 b5 : Int) : Int × Int :=
  let rest := b4 * 256 + b5
  let n := (rest * 1000 + 65535) / 65536
  if n > 999 ∨ n * 65536 / 1000 ≠ rest then (0, 3)
  else if (((b0 * 256 + b1) * 256 + b2) * 256 + b3) * 1000 + n > 1000000000000 then (0, 1)
  else ((((b0 * 256 + b1) * 256 + b2) * 256 + b3) * 1000 + n, 0)
theorem read_ev (b0 b1 b2 b3 b4 b5 : Int) (h0 : 0 ≤ b0 ∧ b0 ≤ 255) (h1 : 0 ≤ b1 ∧ b1 ≤ 255) (h2 : 0 ≤ b2 ∧ b2 ≤ 255) (h3 : 0 ≤ b3 ∧ b3 ≤ 255) (h4 : 0 ≤ b4 ∧ b4 ≤ 255) (h5 : 0 ≤ b5 ∧ b5 ≤ 255) :
    Ev (fun k => clock_ReadCode.f k [b0, b1, b2, b3, b4, b5]) (readS b0 b1 b2 b3 b4 b5) := by
  unfold clock_ReadCode.f
  refine Ev.pos rfl (Ev.pos (by simp) (Ev.pos (by simp) (Ev.pos (by simp) ?_)))
  have r4 : rd [b0, b1, b2, b3, b4, b5] 4 = b4 := rfl
  have r5 : rd [b0, b1, b2, b3, b4, b5] 5 = b5 := rfl
  rw [r4, r5, w64 (show -9223372036854775808 ≤ b4 by omega) (by omega), join8 h4.1 (by omega) h5.1 h5.2]
  have tk : cut_ 4 [b0, b1, b2, b3, b4, b5] = [b0, b1, b2, b3] := rfl
  rw [tk]
  have step : ∀ (x i c : Int) (j : Int), 0 ≤ i → i < 4 → rd [b0, b1, b2, b3] i = c → 0 ≤ c → c ≤ 255 → 0 ≤ x → x ≤ 16777215 → j = i + 1 →
      ∀ r, Ev (fun k => clock_ReadCode.l0 k (x * 256 + c) (b4 * 256 + b5) [b0, b1, b2, b3] 4 j) r → Ev (fun k => clock_ReadCode.l0 k x (b4 * 256 + b5) [b0, b1, b2, b3] 4 i) r := by
    intro x i c j hi0 hi1 hc hc0 hc1 hx0 hx1 hj r H
    refine Ev.step (fun k => by rw [clock_ReadCode.l0]) ?_
    refine Ev.pos (by omega) (Ev.pos (by omega) (Ev.pos (by simp; omega) ?_))
    rw [hc, join8 hx0 (by omega) hc0 hc1, w64 (show -9223372036854775808 ≤ i + 1 by omega) (by omega), ← hj]
    exact H
  show Ev (fun k => clock_ReadCode.l0 k 0 (b4 * 256 + b5) [b0, b1, b2, b3] 4 0) _
  refine step 0 0 b0 1 (by omega) (by omega) rfl h0.1 h0.2 (by omega) (by omega) rfl _ ?_
  refine step _ 1 b1 2 (by omega) (by omega) rfl h1.1 h1.2 (by omega) (by omega) rfl _ ?_
  refine step _ 2 b2 3 (by omega) (by omega) rfl h2.1 h2.2 (by omega) (by omega) rfl _ ?_
  refine step _ 3 b3 4 (by omega) (by omega) rfl h3.1 h3.2 (by omega) (by omega) rfl _ ?_
  rw [show (0 * 256 + b0) = b0 by omega]
  refine Ev.step (fun k => by rw [clock_ReadCode.l0]) ?_
  refine Ev.neg (by omega) ?_
  rw [w64 (show -9223372036854775808 ≤ (b4 * 256 + b5) * 1000 by omega) (by omega), up_eq (by omega) (by omega) (by decide)]
  simp only [Option.bind_some]
  have e : (if (b4 * 256 + b5) * 1000 % 65536 = 0 then (b4 * 256 + b5) * 1000 / 65536 else (b4 * 256 + b5) * 1000 / 65536 + 1) = ((b4 * 256 + b5) * 1000 + 65535) / 65536 := by
    split <;> omega
  rw [e]
  unfold readS
  dsimp only
  generalize hn : ((b4 * 256 + b5) * 1000 + 65535) / 65536 = n
  have hn0 : 0 ≤ n := by omega
  have hn1 : n ≤ 1000 := by omega
  have fin : ∀ (t : Bool), (t = true ↔ n > 999 ∨ n * 65536 / 1000 ≠ b4 * 256 + b5) →
      Ev (fun k => clock_ReadCode.j1 k (((b0 * 256 + b1) * 256 + b2) * 256 + b3) n t) (if n > 999 ∨ n * 65536 / 1000 ≠ b4 * 256 + b5 then ((0, 3) : Int × Int)
        else if (((b0 * 256 + b1) * 256 + b2) * 256 + b3) * 1000 + n > 1000000000000 then (0, 1)
        else ((((b0 * 256 + b1) * 256 + b2) * 256 + b3) * 1000 + n, 0)) := by
    intro t ht
    refine Ev.step (fun k => by rw [clock_ReadCode.j1]) ?_
    rw [w64 (show -9223372036854775808 ≤ (((b0 * 256 + b1) * 256 + b2) * 256 + b3) * 1000 by omega) (by omega), w64 (show -9223372036854775808 ≤ (((b0 * 256 + b1) * 256 + b2) * 256 + b3) * 1000 + n by omega) (by omega)]
    by_cases hc : n > 999 ∨ n * 65536 / 1000 ≠ b4 * 256 + b5
    · rw [if_pos hc]
      exact Ev.pos (ht.mpr hc) (Ev.now _)
    · rw [if_neg hc]
      refine Ev.neg (fun h => hc (ht.mp h)) ?_
      by_cases hb : (((b0 * 256 + b1) * 256 + b2) * 256 + b3) * 1000 + n > 1000000000000
      · refine Ev.pos hb ?_
        rw [if_pos hb]
        exact Ev.now _
      · refine Ev.neg hb ?_
        rw [if_neg hb]
        exact Ev.now _
  by_cases hc : n ≥ 1000
  · exact Ev.pos hc (fin true (by simp; omega))
  · refine Ev.neg hc ?_
    rw [w64 (show -9223372036854775808 ≤ n * 65536 by omega) (by omega), Int.tdiv_eq_ediv_of_nonneg (by omega), w64 (show -9223372036854775808 ≤ n * 65536 / 1000 by omega) (by omega)]
    exact fin _ (by simp; omega)
theorem wf8 {x : Int} (h : (Lit.int .u8 x).wf = true) : 0 ≤ x ∧ x ≤ 255 := by
  simp only [Lit.wf, IntKind.min, IntKind.max, IntKind.signed, IntKind.bits, Bool.and_eq_true, decide_eq_true_eq, Bool.false_eq_true, if_false] at h
  omega
theorem Lib_cmp_cons {x y : Int} (hx : 0 ≤ x ∧ x ≤ 255) (hy : 0 ≤ y ∧ y ≤ 255) (a b : List UInt8) :
    Lib.compareBytes (x.toNat.toUInt8 :: a) (y.toNat.toUInt8 :: b) = if x < y then -1 else if y < x then 1 else Lib.compareBytes a b := by
  have h : ∀ {x y : Int}, (0 ≤ x ∧ x ≤ 255) → (0 ≤ y ∧ y ≤ 255) → (x.toNat.toUInt8 < y.toNat.toUInt8 ↔ x < y) := by
    intro x y hx hy
    rw [UInt8.lt_iff_toNat_lt, Nat.toUInt8_eq, Nat.toUInt8_eq, UInt8.toNat_ofNat', UInt8.toNat_ofNat']
    omega
  simp only [Lib.compareBytes, h hx hy, h hy hx]
theorem cmp6 {x0 x1 x2 x3 x4 x5 y0 y1 y2 y3 y4 y5 : Int} (hx : ∀ x ∈ [x0, x1, x2, x3, x4, x5], 0 ≤ x ∧ x ≤ 255) (hy : ∀ y ∈ [y0, y1, y2, y3, y4, y5], 0 ≤ y ∧ y ≤ 255) :
    Lib.compareBytes ([x0, x1, x2, x3, x4, x5].map fun x => x.toNat.toUInt8) ([y0, y1, y2, y3, y4, y5].map fun x => x.toNat.toUInt8) < 0 ↔
      ((((x0 * 256 + x1) * 256 + x2) * 256 + x3) * 256 + x4) * 256 + x5 < ((((y0 * 256 + y1) * 256 + y2) * 256 + y3) * 256 + y4) * 256 + y5 := by
  have a0 := hx x0 (by simp); have a1 := hx x1 (by simp); have a2 := hx x2 (by simp); have a3 := hx x3 (by simp); have a4 := hx x4 (by simp); have a5 := hx x5 (by simp)
  have b0 := hy y0 (by simp); have b1 := hy y1 (by simp); have b2 := hy y2 (by simp); have b3 := hy y3 (by simp); have b4 := hy y4 (by simp); have b5 := hy y5 (by simp)
  clear hx hy
  simp only [List.map_cons, List.map_nil]
  rw [Lib_cmp_cons a0 b0]
  split; · exact ⟨fun _ => by omega, fun _ => by decide⟩
  split; · exact ⟨fun h => absurd h (by decide), fun h => by omega⟩
  obtain rfl : x0 = y0 := by omega
  rw [Lib_cmp_cons a1 b1]
  split; · exact ⟨fun _ => by omega, fun _ => by decide⟩
  split; · exact ⟨fun h => absurd h (by decide), fun h => by omega⟩
  obtain rfl : x1 = y1 := by omega
  rw [Lib_cmp_cons a2 b2]
  split; · exact ⟨fun _ => by omega, fun _ => by decide⟩
  split; · exact ⟨fun h => absurd h (by decide), fun h => by omega⟩
  obtain rfl : x2 = y2 := by omega
  rw [Lib_cmp_cons a3 b3]
  split; · exact ⟨fun _ => by omega, fun _ => by decide⟩
  split; · exact ⟨fun h => absurd h (by decide), fun h => by omega⟩
  obtain rfl : x3 = y3 := by omega
  rw [Lib_cmp_cons a4 b4]
  split; · exact ⟨fun _ => by omega, fun _ => by decide⟩
  split; · exact ⟨fun h => absurd h (by decide), fun h => by omega⟩
  obtain rfl : x4 = y4 := by omega
  rw [Lib_cmp_cons a5 b5]
  split; · exact ⟨fun _ => by omega, fun _ => by decide⟩
  split; · exact ⟨fun h => absurd h (by decide), fun h => by omega⟩
  exact ⟨fun h => absurd h (by simp [Lib.compareBytes]), fun h => by omega⟩
theorem four (s : Int) (h0 : 0 ≤ s) (h1 : s < 4294967296) : ((s / 16777216 % 256 * 256 + s / 65536 % 256) * 256 + s / 256 % 256) * 256 + s % 256 = s := by
  have e1 : s / 65536 = s / 256 / 256 := by omega
  have e2 : s / 16777216 = s / 256 / 256 / 256 := by omega
  rw [e1, e2]
  have e3 : s / 256 / 256 / 256 % 256 = s / 256 / 256 / 256 := by omega
  rw [e3]
  omega
theorem low8 (x y : Int) (h : 0 ≤ y ∧ y ≤ 255) : (x * 256 + y) / 256 = x ∧ (x * 256 + y) % 256 = y := by omega
def codeS (a : Int) : List Int := [a / 1000 / 16777216 % 256, a / 1000 / 65536 % 256, a / 1000 / 256 % 256, a / 1000 % 256, a % 1000 * 65536 / 1000 / 256 % 256, a % 1000 * 65536 / 1000 % 256]
theorem code_some {a : Int} (h : 0 ≤ a ∧ a ≤ 1000000000000) : clock_Code.f a = some (codeS a, 0) := by
  unfold clock_Code.f codeS
  rw [In_eq, Option.bind_some, if_pos (decide_eq_true h), Int.tdiv_eq_ediv_of_nonneg h.1, Int.tmod_eq_emod_of_nonneg h.1, w64 (show -9223372036854775808 ≤ a / 1000 by omega) (by omega),
    w64 (show -9223372036854775808 ≤ a % 1000 * 65536 by omega) (by omega), Int.tdiv_eq_ediv_of_nonneg (show 0 ≤ a % 1000 * 65536 by omega), w64 (show -9223372036854775808 ≤ a % 1000 * 65536 / 1000 by omega) (by omega)]
theorem code_none {a : Int} (h : ¬ (0 ≤ a ∧ a ≤ 1000000000000)) : clock_Code.f a = some ([], 1) := by
  unfold clock_Code.f
  rw [In_eq, Option.bind_some, if_neg (by simpa using h)]
theorem read_code {a : Int} (h : 0 ≤ a ∧ a ≤ 1000000000000) : Ev (fun k => clock_ReadCode.f k (codeS a)) (a, 0) := by
  have := read_ev (a / 1000 / 16777216 % 256) (a / 1000 / 65536 % 256) (a / 1000 / 256 % 256) (a / 1000 % 256) (a % 1000 * 65536 / 1000 / 256 % 256) (a % 1000 * 65536 / 1000 % 256) (by omega) (by omega) (by omega) (by omega) (by omega) (by omega)
  have e : readS (a / 1000 / 16777216 % 256) (a / 1000 / 65536 % 256) (a / 1000 / 256 % 256) (a / 1000 % 256) (a % 1000 * 65536 / 1000 / 256 % 256) (a % 1000 * 65536 / 1000 % 256) = (a, 0) := by
    unfold readS
    dsimp only
    have e1 : a % 1000 * 65536 / 1000 / 256 % 256 * 256 + a % 1000 * 65536 / 1000 % 256 = a % 1000 * 65536 / 1000 := by omega
    have e2 := four (a / 1000) (by omega) (by omega)
    rw [e1, e2]
    have e3 : (a % 1000 * 65536 / 1000 * 1000 + 65535) / 65536 = a % 1000 := by omega
    rw [e3, if_neg (by omega), if_neg (by omega)]
    rw [show a / 1000 * 1000 + a % 1000 = a by omega]
  rw [e] at this
  exact this
theorem code_order {a b : Int} (ha : 0 ≤ a ∧ a ≤ 1000000000000) (hb : 0 ≤ b ∧ b ≤ 1000000000000) :
    Lib.compareBytes ((codeS a).map fun x => x.toNat.toUInt8) ((codeS b).map fun x => x.toNat.toUInt8) < 0 ↔ a < b := by
  have hr : ∀ (a : Int), 0 ≤ a ∧ a ≤ 1000000000000 → ∀ x ∈ codeS a, 0 ≤ x ∧ x ≤ 255 := by
    intro a ha x hx
    simp only [codeS, List.mem_cons, List.not_mem_nil, or_false] at hx
    rcases hx with rfl | rfl | rfl | rfl | rfl | rfl <;> omega
  have hv : ∀ (a : Int), 0 ≤ a ∧ a ≤ 1000000000000 → ((((a / 1000 / 16777216 % 256 * 256 + a / 1000 / 65536 % 256) * 256 + a / 1000 / 256 % 256) * 256 + a / 1000 % 256) * 256 + a % 1000 * 65536 / 1000 / 256 % 256) * 256 + a % 1000 * 65536 / 1000 % 256 = a / 1000 * 65536 + a % 1000 * 65536 / 1000 := by
    intro a ha
    have e2 := four (a / 1000) (by omega) (by omega)
    rw [e2]
    omega
  have := cmp6 (hr a ha) (hr b hb)
  rw [hv a ha, hv b hb] at this
  refine Iff.trans this ?_
  omega
theorem code_read {b0 b1 b2 b3 b4 b5 n : Int} (h0 : 0 ≤ b0 ∧ b0 ≤ 255) (h1 : 0 ≤ b1 ∧ b1 ≤ 255) (h2 : 0 ≤ b2 ∧ b2 ≤ 255) (h3 : 0 ≤ b3 ∧ b3 ≤ 255) (h4 : 0 ≤ b4 ∧ b4 ≤ 255) (h5 : 0 ≤ b5 ∧ b5 ≤ 255)
    (h : readS b0 b1 b2 b3 b4 b5 = (n, 0)) : (0 ≤ n ∧ n ≤ 1000000000000) ∧ codeS n = [b0, b1, b2, b3, b4, b5] := by
  unfold readS at h
  dsimp only at h
  generalize hr : ((b4 * 256 + b5) * 1000 + 65535) / 65536 = r at h
  have hs : ∃ s, s = ((b0 * 256 + b1) * 256 + b2) * 256 + b3 := ⟨_, rfl⟩
  obtain ⟨s, hs⟩ := hs
  rw [← hs] at h
  by_cases c : r > 999 ∨ r * 65536 / 1000 ≠ b4 * 256 + b5
  · rw [if_pos c] at h
    exact absurd (show (_ : Int) = 0 from congrArg Prod.snd h) (by decide)
  · rw [if_neg c] at h
    by_cases d : s * 1000 + r > 1000000000000
    · rw [if_pos d] at h
      exact absurd (show (_ : Int) = 0 from congrArg Prod.snd h) (by decide)
    · rw [if_neg d] at h
      obtain rfl : s * 1000 + r = n := congrArg Prod.fst h
      have hr0 : 0 ≤ r := by omega
      refine ⟨by omega, ?_⟩
      unfold codeS
      rw [show (s * 1000 + r) / 1000 = s by omega, show (s * 1000 + r) % 1000 = r by omega, show r * 65536 / 1000 = b4 * 256 + b5 by omega]
      have q3 := low8 ((b0 * 256 + b1) * 256 + b2) b3 h3
      have q2 := low8 (b0 * 256 + b1) b2 h2
      have q1 := low8 b0 b1 h1
      have q5 := low8 b4 b5 h5
      have e1 : s / 65536 = s / 256 / 256 := by omega
      have e2 : s / 16777216 = s / 256 / 256 / 256 := by omega
      rw [e1, e2, hs, q3.1, q3.2, q2.1, q2.2, q1.1, q1.2, q5.1, q5.2, show b0 % 256 = b0 by omega, show b4 % 256 = b4 by omega]
theorem read_bad {b0 b1 b2 b3 b4 b5 : Int} (h : (readS b0 b1 b2 b3 b4 b5).2 ≠ 0) : (readS b0 b1 b2 b3 b4 b5).1 = 0 := by
  unfold readS at h ⊢
  dsimp only at h ⊢
  split
  · rfl
  · rename_i c
    rw [if_neg c] at h
    split
    · rfl
    · rename_i d
      rw [if_neg d] at h
      exact absurd rfl h
theorem tail_ev (l : List Int) (hw : ∀ x ∈ l, (Lit.int .u8 x).wf = true) : Ev (fun k => (clock_ReadCode.f k l).bind fun bt => if bt.2 = 0 then ((clock_Code.f bt.1).bind fun bt2 => (if bt2.2 = 0 then ((bytes_Equal.f bt2.1 l).bind fun t147 => (if t147 = true then ((perigeelaw2_awake.f k).bind fun t148 => some t148) else none)) else none)) else (if bt.1 = 0 then ((perigeelaw2_awake.f k).bind fun t => some t) else none)) true := by
  have aw : Ev (fun k => (perigeelaw2_awake.f k).bind fun t => some t) true := Ev.bind awake_ev (Ev.now _)
  by_cases h : l.length = 6
  · obtain ⟨b0, b1, b2, b3, b4, b5, rfl⟩ : ∃ b0 b1 b2 b3 b4 b5, l = [b0, b1, b2, b3, b4, b5] := by
      match l, h with
      | [b0, b1, b2, b3, b4, b5], _ => exact ⟨b0, b1, b2, b3, b4, b5, rfl⟩
    have hb : ∀ x ∈ [b0, b1, b2, b3, b4, b5], 0 ≤ x ∧ x ≤ 255 := fun x hx => wf8 (hw x hx)
    refine Ev.bind (read_ev b0 b1 b2 b3 b4 b5 (hb _ (by simp)) (hb _ (by simp)) (hb _ (by simp)) (hb _ (by simp)) (hb _ (by simp)) (hb _ (by simp))) ?_
    by_cases e : (readS b0 b1 b2 b3 b4 b5).2 = 0
    · refine Ev.pos e ?_
      obtain ⟨hn, hc⟩ := code_read (hb b0 (by simp)) (hb b1 (by simp)) (hb b2 (by simp)) (hb b3 (by simp)) (hb b4 (by simp)) (hb b5 (by simp)) (n := (readS b0 b1 b2 b3 b4 b5).1) (by rw [← e])
      simp only [code_some hn, Option.bind_some, hc, bytes_Equal.f, beq_self_eq_true]
      exact Ev.pos trivial (Ev.pos trivial aw)
    · refine Ev.neg e (Ev.pos (read_bad e) aw)
  · have e : Ev (fun k => clock_ReadCode.f k l) (0, 3) := by
      unfold clock_ReadCode.f
      exact Ev.neg (by omega) (Ev.now _)
    exact Ev.bind e (Ev.neg (by decide) (Ev.pos rfl aw))
theorem CodesComeBack : perigeelaw2_CodesComeBack.Pure := by
  intro a b l _ _ _ _ hw
  refine Ev.rounds (g := fun k => perigeelaw2_CodesComeBack.f k a b l) ?_
  unfold perigeelaw2_CodesComeBack.f
  by_cases h : 0 ≤ a ∧ a ≤ 1000000000000
  · simp only [code_some h, Option.bind_some]
    refine Ev.pos (by trivial) (Ev.bind (read_code h) (Ev.pos (by trivial) (Ev.pos (by trivial) ?_)))
    by_cases hb : 0 ≤ b ∧ b ≤ 1000000000000
    · simp only [code_some hb, Option.bind_some, bytes_Compare.f]
      refine Ev.pos (by trivial) (Ev.neg ?_ (tail_ev l hw))
      have := code_order h hb
      by_cases hab : a < b
      · simp [hab, this.mpr hab]
      · have h2 : ¬ _ := fun hh => hab (this.mp hh)
        simp [hab, h2]
    · simp only [code_none hb, Option.bind_some]
      exact Ev.neg (by decide) (tail_ev l hw)
  · simp only [code_none h, Option.bind_some]
    exact Ev.neg (by decide) (tail_ev l hw)

end Go.Proofs.Ytjbchhabdlbflaa.Pure
