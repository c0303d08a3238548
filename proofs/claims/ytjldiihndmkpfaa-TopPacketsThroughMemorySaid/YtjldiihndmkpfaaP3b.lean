/- Words: odd, kind, what is put right, the word of a code and the code of a word; both sides. -/
import Derived.Test.YtjldiihndmkpfaaP3a
set_option linter.unusedVariables false
set_option linter.unusedSimpArgs false
set_option maxRecDepth 10000
set_option maxHeartbeats 4000000
namespace Go.Proofs.P3
open Go.Ex
theorem ones64_ok {c : Nat} (hc : c < 2 ^ 22) : OkF Try.prog 146 [.int .u64 (c : Int)] (.int .i64 ((o6 (o5 (o4 (o3 (o2 (o1 c))))) &&& 127 : Nat) : Int), []) := by
  obtain ⟨_, b1, b2, b3, b4, b5, b6⟩ := ones_nat hc
  refine OkF.W0 hm h146 (of_decide_eq_true rfl) ?_
  unfold c146
  have q1 : ∀ (a : Nat), binA .shr (.int .u64 (a : Int)) (.int .u64 1) = some (.int .u64 ((a / 2 : Nat) : Int)) := fun a => B_shr (k := .u64) (a := a) (j := 1) (by omega)
  have q2 : ∀ (a : Nat), binA .shr (.int .u64 (a : Int)) (.int .u64 2) = some (.int .u64 ((a / 4 : Nat) : Int)) := fun a => B_shr (k := .u64) (a := a) (j := 2) (by omega)
  have q4 : ∀ (a : Nat), binA .shr (.int .u64 (a : Int)) (.int .u64 4) = some (.int .u64 ((a / 16 : Nat) : Int)) := fun a => B_shr (k := .u64) (a := a) (j := 4) (by omega)
  have q8 : ∀ (a : Nat), binA .shr (.int .u64 (a : Int)) (.int .u64 8) = some (.int .u64 ((a / 256 : Nat) : Int)) := fun a => B_shr (k := .u64) (a := a) (j := 8) (by omega)
  have q16 : ∀ (a : Nat), binA .shr (.int .u64 (a : Int)) (.int .u64 16) = some (.int .u64 ((a / 65536 : Nat) : Int)) := fun a => B_shr (k := .u64) (a := a) (j := 16) (by omega)
  have q32 : ∀ (a : Nat), binA .shr (.int .u64 (a : Int)) (.int .u64 32) = some (.int .u64 ((a / 4294967296 : Nat) : Int)) := fun a => B_shr (k := .u64) (a := a) (j := 32) (by omega)
  have m0 : ∀ (a : Nat), a < 2 ^ 63 → binA .and (.int .u64 (a : Int)) (.int .u64 6148914691236517205) = some (.int .u64 ((a &&& 6148914691236517205 : Nat) : Int)) := fun a h => B_and (b := 6148914691236517205) h (by omega)
  have m1 : ∀ (a : Nat), a < 2 ^ 63 → binA .and (.int .u64 (a : Int)) (.int .u64 3689348814741910323) = some (.int .u64 ((a &&& 3689348814741910323 : Nat) : Int)) := fun a h => B_and (b := 3689348814741910323) h (by omega)
  have m2 : ∀ (a : Nat), a < 2 ^ 63 → binA .and (.int .u64 (a : Int)) (.int .u64 1085102592571150095) = some (.int .u64 ((a &&& 1085102592571150095 : Nat) : Int)) := fun a h => B_and (b := 1085102592571150095) h (by omega)
  have e1 : binA .add (.int .u64 ((c / 2 &&& 6148914691236517205 : Nat) : Int)) (.int .u64 ((c &&& 6148914691236517205 : Nat) : Int)) = some (.int .u64 ((o1 c : Nat) : Int)) := B_add (by unfold o1 at b1; omega)
  have s1 := q1 c
  have s2 := m0 (c / 2) (by omega)
  have s3 := m0 c (by omega)
  generalize c / 2 &&& 6148914691236517205 = x1 at s2 e1
  generalize c &&& 6148914691236517205 = x2 at s3 e1
  generalize c / 2 = x3 at s1 s2
  generalize o1 c = y1 at *
  have e2 : binA .add (.int .u64 ((y1 / 4 &&& 3689348814741910323 : Nat) : Int)) (.int .u64 ((y1 &&& 3689348814741910323 : Nat) : Int)) = some (.int .u64 ((o2 y1 : Nat) : Int)) := B_add (by unfold o2 at b2; omega)
  have s4 := q2 y1
  have s5 := m1 (y1 / 4) (by omega)
  have s6 := m1 y1 (by omega)
  generalize y1 / 4 &&& 3689348814741910323 = x4 at s5 e2
  generalize y1 &&& 3689348814741910323 = x5 at s6 e2
  generalize y1 / 4 = x6 at s4 s5
  generalize o2 y1 = y2 at *
  have s7 := q4 y2
  have e3 : binA .add (.int .u64 ((y2 / 16 : Nat) : Int)) (.int .u64 ((y2 : Nat) : Int)) = some (.int .u64 ((y2 / 16 + y2 : Nat) : Int)) := B_add (by omega)
  have s8 := m2 (y2 / 16 + y2) (by omega)
  rw [show (y2 / 16 + y2) &&& 1085102592571150095 = o3 y2 from rfl] at s8
  generalize y2 / 16 + y2 = x7 at e3 s8
  generalize y2 / 16 = x8 at s7 e3
  generalize o3 y2 = y3 at *
  have s9 := q8 y3
  have e4 : binA .add (.int .u64 ((y3 : Nat) : Int)) (.int .u64 ((y3 / 256 : Nat) : Int)) = some (.int .u64 ((o4 y3 : Nat) : Int)) := B_add (by unfold o4 at b4; omega)
  generalize y3 / 256 = x9 at s9 e4
  generalize o4 y3 = y4 at *
  have s10 := q16 y4
  have e5 : binA .add (.int .u64 ((y4 : Nat) : Int)) (.int .u64 ((y4 / 65536 : Nat) : Int)) = some (.int .u64 ((o5 y4 : Nat) : Int)) := B_add (by unfold o5 at b5; omega)
  generalize y4 / 65536 = x10 at s10 e5
  generalize o5 y4 = y5 at *
  have s11 := q32 y5
  have e6 : binA .add (.int .u64 ((y5 : Nat) : Int)) (.int .u64 ((y5 / 4294967296 : Nat) : Int)) = some (.int .u64 ((o6 y5 : Nat) : Int)) := B_add (by unfold o6 at b6; omega)
  generalize y5 / 4294967296 = x11 at s11 e6
  generalize o6 y5 = y6 at *
  have s12 : IntKind.i64.wrap (y6 : Int) = y6 := w_i64 (by omega) (by omega)
  have s13 : binA .and (.int .i64 (y6 : Int)) (.int .i64 127) = some (.int .i64 ((y6 &&& 127 : Nat) : Int)) := A_and (b := 127) b6 (by omega)
  generalize y6 &&& 127 = y7 at *
  clear q1 q2 q4 q8 q16 q32 m0 m1 m2
  simp -dsimp [-i_and, -i_shr, -i_add, s1, s2, s3, e1, s4, s5, s6, e2, s7, e3, s8, s9, e4, s10, e5, s11, e6, s12, s13]
theorem odd_ok {c : Nat} (hc : c < 2 ^ 22) : OkF Try.prog 101 [.int .i64 (c : Int)] (.bool (oddN c), []) := by
  have h1 : OkF Try.prog 129 [.int .u64 (c : Int)] (.int .i64 ((o6 (o5 (o4 (o3 (o2 (o1 c))))) &&& 127 : Nat) : Int), []) := by
    refine OkF.W0 hm h129 (of_decide_eq_true rfl) ?_
    unfold c129
    simp -dsimp
    refine call_int (ones64_ok hc) ?_
    simp -dsimp
  have ho := odd_ones hc
  generalize o6 (o5 (o4 (o3 (o2 (o1 c))))) &&& 127 = y at h1 ho
  refine OkF.W0 hm h101 (of_decide_eq_true rfl) ?_
  unfold c101
  have e1 : IntKind.u64.wrap (c : Int) = c := w_u64 (by omega) (by omega)
  have e2 : (y : Int).tmod 2 = ((y % 2 : Nat) : Int) := by rw [Int.tmod_eq_emod_of_nonneg (by omega)]; omega
  simp -dsimp [e1]
  refine call_int h1 ?_
  generalize y % 2 = z at e2 ho
  simp -dsimp [e2]
  rw [← ho, Bool.eq_iff_iff]
  simp
  omega
theorem markR_ok {c : Nat} (hc : c < 2 ^ 22) : OkF Try.prog 150 [.int .i64 (c : Int)] (.int .i64 (markN c : Nat), []) := by
  refine OkF.W0 hm h150 (of_decide_eq_true rfl) ?_
  unfold c150
  simp -dsimp
  refine loop_left 21 (fun n t => ∃ m : Nat, t.t 0 = .int .i64 (c : Int) ∧ t.t 3 = .int .i64 (m : Int) ∧ t.t 4 = .int .i64 ((22 - n : Nat) : Int) ∧ m < 32 ∧ xmark n (22 - n) c m = markN c) ⟨0, by simp -dsimp [markN]⟩ (fun t hI => ?_) (fun n t hn hI => ?_)
  · obtain ⟨m, i0, i3, i4, hm, hx⟩ := hI
    unfold l150_0
    simp only [xmark] at hx
    simp -dsimp [i0, i3, i4, hx]
  · obtain ⟨m, i0, i3, i4, hm, hx⟩ := hI
    obtain ⟨i, hi⟩ : ∃ i : Nat, 22 - (n + 1) = i := ⟨_, rfl⟩
    have hi' : 22 - n = i + 1 := by omega
    rw [hi] at i4 hx
    rw [hi']
    have hlt : ((i : Nat) : Int) ≤ 21 := by omega
    have hw : IntKind.i64.wrap ((i : Int) + 1) = ((i + 1 : Nat) : Int) := by rw [w_i64 (by omega) (by omega)]; omega
    have hxo := A_xor (a := m) (b := i) (by omega) (by omega)
    unfold l150_0
    simp -dsimp [i0, i3, i4, hlt]
    refine call_bool (has_ok (c := c) (n := i) (by omega) (by omega) (by omega)) ?_
    simp -dsimp
    simp only [xmark] at hx
    refine condK_of ?_ ?_ <;> intro q <;> simp -dsimp [-i_xor, i0, i3, i4, hw, hxo]
    · rw [q] at hx
      exact ⟨m ^^^ i, rfl, Nat.xor_lt_two_pow (n := 5) hm (by omega), by simpa using hx⟩
    · rw [q] at hx
      exact ⟨m, rfl, hm, by simpa using hx⟩
theorem oddR_ok {c : Nat} (hc : c < 2 ^ 22) : OkF Try.prog 151 [.int .i64 (c : Int)] (.bool (oddN c), []) := by
  refine OkF.W0 hm h151 (of_decide_eq_true rfl) ?_
  unfold c151
  simp -dsimp
  refine loop_left 22 (fun n t => ∃ b : Bool, t.t 0 = .int .i64 (c : Int) ∧ t.t 3 = .bool b ∧ t.t 4 = .int .i64 ((23 - n : Nat) : Int) ∧ xodd n (23 - n) c b = oddN c) ⟨false, by simp -dsimp [oddN]⟩ (fun t hI => ?_) (fun n t hn hI => ?_)
  · obtain ⟨b, i0, i3, i4, hx⟩ := hI
    unfold l151_0
    simp only [xodd] at hx
    simp -dsimp [i0, i3, i4, hx]
  · obtain ⟨b, i0, i3, i4, hx⟩ := hI
    obtain ⟨i, hi⟩ : ∃ i : Nat, 23 - (n + 1) = i := ⟨_, rfl⟩
    have hi' : 23 - n = i + 1 := by omega
    rw [hi] at i4 hx
    rw [hi']
    have hlt : ((i : Nat) : Int) ≤ 22 := by omega
    have hw : IntKind.i64.wrap ((i : Int) + 1) = ((i + 1 : Nat) : Int) := by rw [w_i64 (by omega) (by omega)]; omega
    unfold l151_0
    simp -dsimp [i0, i3, i4, hlt]
    refine call_bool (has_ok (c := c) (n := i) (by omega) (by omega) (by omega)) ?_
    simp only [xodd] at hx
    simp -dsimp [i0, i3, i4, hw]
    rw [← hx]
    cases b <;> cases c.testBit (i - 1) <;> simp
theorem ret1 {P : Program} {f nx : Nat} {h : Hp} {vs us : List V} {a b : Int} {K : V → Hp → Nat → Option (List Nat) → Option (List Nat) → Prop} (hf : OkF P f us (.tup [.int .i64 a, .int .i64 b], [])) (hK : K (.tup [.int .i64 a, .int .i64 b]) h nx (rdOf vs) (some [])) : callK P f vs (some us) h nx K ⟨⟩ :=
  call_one hf (by simp [okRes, roFree, roFreeL]) (by simpa [shift, shiftL] using hK)
theorem ret3 {P : Program} {f nx : Nat} {h : Hp} {vs us : List V} {a b c : Int} {K : V → Hp → Nat → Option (List Nat) → Option (List Nat) → Prop} (hf : OkF P f us (.tup [.int .i64 a, .int .i64 b, .int .i64 c], [])) (hK : K (.tup [.int .i64 a, .int .i64 b, .int .i64 c]) h nx (rdOf vs) (some [])) : callK P f vs (some us) h nx K ⟨⟩ :=
  call_one hf (by simp [okRes, roFree, roFreeL]) (by simpa [shift, shiftL] using hK)
theorem kind_ok {c : Nat} (hc : c < 2 ^ 22) : OkF Try.prog 133 [.int .i64 (c : Int)] (.tup [.int .i64 ((kindN c).1 : Nat), .int .i64 ((kindN c).2 : Nat)], []) := by
  refine OkF.W0 hm h133 (of_decide_eq_true rfl) ?_
  unfold c133
  simp -dsimp
  refine call_int (mark_ok hc) ?_
  have hml := markN_lt c
  simp -dsimp
  refine call_bool (odd_ok hc) ?_
  simp -dsimp
  cases ho : oddN c with
  | true =>
    by_cases q : markN c = 0
    · simp -dsimp [q, kindN, ho]
    · have q' : ¬ ((markN c : Nat) : Int) = 0 := by omega
      simp -dsimp [q, q']
      refine call_bool (odd_ok hc) ?_
      rw [ho]
      simp -dsimp
      by_cases q2 : markN c < 22
      · have q2' : ((markN c : Nat) : Int) < 22 := by omega
        simp -dsimp [q2', kindN, ho, q, q2]
      · have q2' : ¬ ((markN c : Nat) : Int) < 22 := by omega
        simp -dsimp [q, q2, q2']
        refine call_bool (odd_ok hc) ?_
        rw [ho]
        simp -dsimp [kindN, ho, q, q2]
  | false =>
    simp -dsimp
    refine call_bool (odd_ok hc) ?_
    rw [ho]
    simp -dsimp
    refine call_bool (odd_ok hc) ?_
    rw [ho]
    simp -dsimp
    by_cases q : markN c = 0
    · simp -dsimp [q, kindN, ho]
    · have q' : ¬ ((markN c : Nat) : Int) = 0 := by omega
      simp -dsimp [q', kindN, ho, q]
theorem kindR_ok {c : Nat} (hc : c < 2 ^ 22) : OkF Try.prog 141 [.int .i64 (c : Int)] (.tup [.int .i64 ((kindN c).1 : Nat), .int .i64 ((kindN c).2 : Nat)], []) := by
  refine OkF.W0 hm h141 (of_decide_eq_true rfl) ?_
  unfold c141
  simp -dsimp
  refine call_int (markR_ok hc) ?_
  have hml := markN_lt c
  simp -dsimp
  refine call_bool (oddR_ok hc) ?_
  simp -dsimp
  cases ho : oddN c with
  | false =>
    by_cases q : markN c = 0
    · simp -dsimp [q, kindN, ho]
    · have q' : ¬ ((markN c : Nat) : Int) = 0 := by omega
      simp -dsimp [q, q']
      refine call_bool (oddR_ok hc) ?_
      rw [ho]
      simp -dsimp [kindN, ho, q]
  | true =>
    simp -dsimp
    refine call_bool (oddR_ok hc) ?_
    rw [ho]
    simp -dsimp
    by_cases q2 : markN c < 22
    · have q2' : ¬ (21 : Int) < ((markN c : Nat) : Int) := by omega
      by_cases q : markN c = 0
      · simp -dsimp [q2', kindN, ho, q, q2]
      · have q' : ¬ ((markN c : Nat) : Int) = 0 := by omega
        simp -dsimp [q2', kindN, ho, q, q2, q']
    · have q2' : (21 : Int) < ((markN c : Nat) : Int) := by omega
      have q : ¬ markN c = 0 := by omega
      simp -dsimp [q2', kindN, ho, q, q2]
theorem repaired_ok {c : Nat} (hc : c < 2 ^ 22) : OkF Try.prog 134 [.int .i64 (c : Int)] (.int .i64 (repairedN c : Nat), []) := by
  refine OkF.W0 hm h134 (of_decide_eq_true rfl) ?_
  unfold c134
  have hb := kind_bounds c
  simp -dsimp
  refine ret1 (kind_ok hc) ?_
  simp -dsimp
  by_cases q : (kindN c).1 = 2
  · have q' : (((kindN c).1 : Nat) : Int) = 2 := by omega
    have hx := A_xor (a := c) (b := bt (kindN c).2) (by omega) (bt_lt (by omega))
    have hr : repairedN c = c ^^^ bt (kindN c).2 := by unfold repairedN bt; rw [if_pos q]
    simp -dsimp [q', q]
    refine call_int (bit_ok (n := (kindN c).2) (by omega) (by omega)) ?_
    simp -dsimp [-i_xor, hx, hr]
  · have q' : ¬ (((kindN c).1 : Nat) : Int) = 2 := by omega
    simp -dsimp [q', q, repairedN_not q]
theorem rightR_ok {c : Nat} (hc : c < 2 ^ 22) : OkF Try.prog 142 [.int .i64 (c : Int)] (.tup [.int .i64 ((if (kindN c).1 = 3 then 0 else repairedN c : Nat) : Int), .int .i64 ((if (kindN c).1 = 3 then 0 else (kindN c).1 - 1 : Nat) : Int), .int .i64 ((if (kindN c).1 = 3 then 15 else 0 : Nat) : Int)], []) := by
  refine OkF.W0 hm h142 (of_decide_eq_true rfl) ?_
  unfold c142
  have hb := kind_bounds c
  simp -dsimp
  refine ret1 (kindR_ok hc) ?_
  simp -dsimp
  by_cases q3 : (kindN c).1 = 3
  · have q3' : (((kindN c).1 : Nat) : Int) = 3 := by omega
    simp -dsimp [q3', q3]
  have q3' : ¬ (((kindN c).1 : Nat) : Int) = 3 := by omega
  by_cases q : (kindN c).1 = 2
  · have q' : (((kindN c).1 : Nat) : Int) = 2 := by omega
    have hx := A_xor (a := c) (b := bt (kindN c).2) (by omega) (bt_lt (by omega))
    have hr : repairedN c = c ^^^ bt (kindN c).2 := by unfold repairedN bt; rw [if_pos q]
    have e1 : IntKind.i64.wrap (((kindN c).2 : Int) - 1) = (((kindN c).2 - 1 : Nat) : Int) := by rw [w_i64 (by omega) (by omega)]; omega
    simp -dsimp [-i_xor, -i_shl, q3', q3, q', q, hx, hr, e1, A_bt (k := .i64) (n := (kindN c).2) (by omega)]
  · have q' : ¬ (((kindN c).1 : Nat) : Int) = 2 := by omega
    have q1 : (kindN c).1 = 1 := by omega
    simp -dsimp [q3', q3, q', q, repairedN_not q, q1]
end Go.Proofs.P3
