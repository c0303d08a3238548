/- Numbers of the reference; the texts of marks, both sides. -/
import Derived.Test.YtjldiihndmkpfaaDoorE13
import Derived.Test.YtjldiihndmkpfaaDoorE14a
set_option linter.unusedVariables false
set_option linter.unusedSimpArgs false
set_option maxRecDepth 10000
set_option maxHeartbeats 8000000
namespace Go.Proofs.P4
open Go.Ex
theorem mark_seqT (x y : Mark) : seqA true [0, 0, 0] (mkV x) (mkV y) = some (.bool (!decide (x = y))) := by
  obtain ⟨a, b, c⟩ := x
  obtain ⟨d, e, f⟩ := y
  by_cases h1 : a = d <;> by_cases h2 : b = e <;> by_cases h3 : c = f <;> simp [seqA, eqCells, tagOf, h1, h2, h3]
theorem equalM_ok (l m : List Mark) (hl : l.length < 2 ^ 62) : OkF Tryd.prog 18 [rM l, rM m] (.bool (decide (l = m)), []) :=
  equal_ok (d := markCd) (esz := 3) (tags := [0, 0, 0]) hm h18 rfl (by decide) (fun a b => mark_seqT a b) l m hl
theorem Number_ok (s : List UInt8) (most : Nat) (h : most ≤ 18) : OkF Tryd.prog 53 [.str s, .int .i64 most] (.tup [.int .i64 (digV s most).1, .bool (digV s most).2], []) := by
  refine OkF.W0 hm h53 (of_decide_eq_true rfl) ?_
  unfold c53
  simp -dsimp
  refine call_bool (within2_ok _ _ _) ?_
  by_cases h0 : s = []
  · subst h0
    simp -dsimp [digV, inB]
  have hl : 0 < s.length := List.length_pos_iff.2 h0
  by_cases h1 : most < s.length
  · have h1' : inB (s.length : Int) 1 most = false := by simp [inB]; omega
    have e : digV s most = (0, false) := by unfold digV; rw [if_neg h0, if_pos h1]
    simp -dsimp [h1', e]
  have h1' : inB (s.length : Int) 1 most = true := by simp [inB]; omega
  have g0 := dig_at hl
  have g0' : s[(0 : Int).toNat]? = some (s.getD 0 0) := g0
  have sub : digV s most = if s.getD 0 0 = 48 ∧ 1 < s.length then (0, false) else match Lib.decFrom 0 s with
    | some n => (((n : Nat) : Int), true)
    | none => (0, false) := by
    unfold digV
    rw [if_neg h0, if_neg h1, g0]
    simp only [Option.some.injEq]
    rfl
  generalize s.getD 0 0 = a at *
  by_cases c2 : a = 48 ∧ 1 < s.length
  · obtain ⟨c3, c4⟩ := c2
    have c3' : ((a.toNat : Int) = 48) = True := eq_true (u8_48.2 c3)
    have c4' : (1 : Int) < (s.length : Int) := by omega
    have e : digV s most = (0, false) := by rw [sub, if_pos ⟨c3, c4⟩]
    simp -dsimp [h1', g0, g0', c3', c4', e]
  rw [if_neg c2] at sub
  have main : ∀ t : St, t.t 0 = .str s → t.t 6 = .int .i64 0 → t.t 7 = .int .i64 0 → t.h = none0 →
      LP Tryd.prog l53_0 (fun e t => (e = .exit 0 ∧ ∃ n : Nat, digV s most = ((n : Int), true) ∧ t.t 6 = .int .i64 n ∧ t.h = none0) ∨ (e = .ret ∧ digV s most = (0, false) ∧ t.t 4 = .int .i64 0 ∧ t.t 5 = .bool false ∧ t.h = none0)) t ⟨⟩ ⟨⟩ := by
    intro t i0 i6 i7 ih
    refine loop_to 7 s.length (fun k t => t.t 7 = .int .i64 k ∧ t.t 0 = .str s ∧ t.h = none0 ∧ ∃ n : Nat, Lib.decFrom 0 (s.take k) = some n ∧ t.t 6 = .int .i64 n) (fun k t h => h.1) ⟨i7, i0, ih, 0, rfl, i6⟩ (fun k t hk hI => ?_)
    obtain ⟨j7, j0, jh, n, hn', j6⟩ := hI
    by_cases hlt : k < s.length
    · have hlt' : (k : Int) < (s.length : Int) := by omega
      have hw : IntKind.i64.wrap ((k : Int) + 1) = (k : Int) + 1 := IntWalk.i64_in _ (by omega)
      have gk := dig_at hlt
      have gk' : s[((k : Nat) : Int).toNat]? = some (s.getD k 0) := by rw [Int.toNat_natCast]; exact gk
      have hlt2 := Lib.decFrom_take_lt hn' (by omega)
      generalize s.getD k 0 = b at *
      cases hd : Lib.digitVal b with
      | none =>
        have hbad : digV s most = (0, false) := by
          rw [sub]
          cases hs : Lib.decFrom 0 s with
          | none => rfl
          | some m =>
            obtain ⟨d, hd'⟩ := Lib.digit_of_decFrom s 0 m hs k b gk
            rw [hd] at hd'
            cases hd'
        unfold l53_0
        by_cases q1 : (b.toNat : Int) < 48
        · simp -dsimp [j0, j7, hlt', gk, gk', q1]
          exact ⟨hbad, jh⟩
        · have q2 : 57 < (b.toNat : Int) := by
            unfold Lib.digitVal at hd
            split at hd
            · cases hd
            · omega
          simp -dsimp [j0, j7, hlt', gk, gk', q1, q2]
          exact ⟨hbad, jh⟩
      | some d =>
        obtain ⟨d1, d2, rfl⟩ := Lib.digitVal_eq hd
        have hst := Lib.decFrom_take s k 0 n b _ hn' gk hd
        have q1 : ¬ (b.toNat : Int) < 48 := by omega
        have q2 : ¬ 57 < (b.toNat : Int) := by omega
        have w1 : IntKind.i64.wrap (10 * (n : Int)) = 10 * (n : Int) := w_i64 (by omega) (by omega)
        have w2 : IntKind.u8.wrap ((b.toNat : Int) - 48) = ((b.toNat - 48 : Nat) : Int) := by rw [IntWalk.u8_in _ (by omega)]; omega
        have w3 : IntKind.i64.wrap ((b.toNat - 48 : Nat) : Int) = ((b.toNat - 48 : Nat) : Int) := w_i64 (by omega) (by omega)
        have w4 : IntKind.i64.wrap (10 * (n : Int) + ((b.toNat - 48 : Nat) : Int)) = ((n * 10 + (b.toNat - 48) : Nat) : Int) := by rw [w_i64 (by omega) (by omega)]; omega
        generalize b.toNat - 48 = dd at *
        generalize hnn : n * 10 + dd = n' at *
        unfold l53_0
        simp -dsimp [j0, j6, j7, hlt', hw, gk, gk', q1, q2, w1, w2, w3, w4]
        exact ⟨by omega, jh, n', hst, by simp -dsimp⟩
    · have hkl : k = s.length := by omega
      subst hkl
      rw [List.take_length] at hn'
      unfold l53_0
      simp -dsimp [j0, j7]
      exact ⟨n, by rw [sub, hn'], by simp -dsimp [j6], jh⟩
  by_cases c3 : (a.toNat : Int) = 48
  · have c4 : ¬ (1 : Int) < (s.length : Int) := fun q => c2 ⟨u8_48.1 c3, by omega⟩
    simp -dsimp [h1', g0, g0', c3, c4]
    refine LP_cut _ (main _ (by simp -dsimp) (by simp -dsimp) (by simp -dsimp) (by simp -dsimp)) ?_
    rintro e t (⟨rfl, n, e, t6, th⟩ | ⟨rfl, e, t4, t5, th⟩)
    · simp -dsimp [t6, e]
    · simp -dsimp [t4, t5, e]
  · simp -dsimp [h1', g0, g0', c3]
    refine LP_cut _ (main _ (by simp -dsimp) (by simp -dsimp) (by simp -dsimp) (by simp -dsimp)) ?_
    rintro e t (⟨rfl, n, e, t6, th⟩ | ⟨rfl, e, t4, t5, th⟩)
    · simp -dsimp [t6, e]
    · simp -dsimp [t4, t5, e]
end Go.Proofs.P4

