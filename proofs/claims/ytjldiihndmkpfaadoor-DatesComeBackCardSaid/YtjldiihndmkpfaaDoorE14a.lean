/- What the laws of dates and marks ask of the clock. -/
import Derived.Test.YtjldiihndmkpfaaDoorD2a
set_option linter.unusedVariables false
set_option linter.unusedSimpArgs false
set_option maxRecDepth 10000
set_option maxHeartbeats 4000000
namespace Go.Proofs.P4
open Go.Ex
theorem bits_ok (n b : Int) : OkF Tryd.prog 64 [.int .i64 n, .int .i64 b] (.int .i64 (if inB b 4 40 = false then 1 else if 5000 < n then 2 else 0), []) := by
  refine OkF.W0 hm h64 (of_decide_eq_true rfl) ?_
  unfold c64
  simp -dsimp
  refine call_pure (In_ok _ _ _) (by simp) rfl ?_
  simp -dsimp
  cases q : inB b 4 40 with
  | false => simp -dsimp
  | true => by_cases q2 : 5000 < n <;> simp -dsimp [q2]
theorem rolled_19 : OkF Tryd.prog 43 [rI [19], .int .i64 4] (.tup [.sl 0 0 0 1 none, .int .i64 0], [⟨0, 1, [.int .i64 3], none⟩]) := by
  refine OkF.of hm h43 (of_decide_eq_true rfl) (W_of (Q := fun e s => endK e (∃ own : List Nat, own.Nodup ∧ expV s.h own (resV [4, 5] s.t) = some (.tup [.sl 0 0 0 1 none, .int .i64 0]) ∧ own.mapM (expB s.h own) = some [⟨0, 1, [.int .i64 3], none⟩])) ?_) (fun b hb => ?_)
  rotate_left
  · simp at hb
    subst hb
    exact ⟨rfl, rfl⟩
  unfold c43
  have hb := bits_ok 1 4
  rw [show (if inB 4 4 40 = false then (1 : Int) else if 5000 < (1 : Int) then 2 else 0) = 0 from rfl] at hb
  simp -dsimp
  refine call_int hb ?_
  simp -dsimp
  refine for_lt 1 (fun k t => t.t 17 = rI [19] ∧ t.t 1 = .int .i64 4 ∧ (k = 0 → t.t 7 = .ns ∧ t.nx = 0) ∧ (k = 1 → t.t 7 = .sl 1 0 0 1 none ∧ t.h 1 = some ⟨0, 1, [.int .i64 3], none⟩)) rfl (by decide) ?_ (by simp -dsimp) (by simp -dsimp) (fun k t hk hI hi hn => ?_) (fun t hI hi hn => ?_)
  · exact ⟨by simp -dsimp, by simp -dsimp, fun _ => by simp -dsimp, fun h => by cases h⟩
  · obtain ⟨i17, i1, hA, _⟩ := hI
    obtain rfl : k = 0 := by omega
    obtain ⟨i7, inx⟩ := hA rfl
    have hg : [(19 : Int)][0]? = some 19 := rfl
    have hia : ∀ K, iaddrK t.h (rI [19]) (.int .i64 ((0 : Nat) : Int)) 1 K ⟨⟩ = K (.rp (fl ic [19]) 0) [] := fun K => i_ia hg
    have hld := i_ld (h := t.h) hg
    have m1 : (19 : Int).tmod 16 = 3 := by decide
    have m2 : IntKind.i64.wrap (1 * 2 ^ min (Int.toNat 4) IntKind.i64.bits) = 16 := by decide
    have m4 : IntKind.i64.wrap (2 ^ min 4 IntKind.i64.bits) = 16 := by decide
    have m3 : inB 19 0 1000000000000 = true := by decide
    have hia0 : ∀ K, iaddrK t.h (rI [19]) (.int .i64 0) 1 K ⟨⟩ = K (.rp (fl ic [19]) 0) [] := hia
    have hi0 : t.t 19 = .int .i64 0 := hi
    have hap : ∀ (h : Hp) (ids : List Nat) (K : V → Hp → Nat → Option (List Nat) → Option (List Nat) → Prop), appK 1 8 .ns (some (1, [.int .i64 3])) h 1 ids K ⟨⟩ = K (.sl 1 0 0 1 none) (upd h 1 (some ⟨0, 1, [.int .i64 3], none⟩)) 2 (some (1 :: ids)) (some [1]) := fun h ids K => rfl
    unfold k43_0
    simp -dsimp [i17, hi0, hn, hia0, hld]
    refine call_bool (In_ok _ _ _) ?_
    rw [m3]
    simp -dsimp [i1, m2, m4, m1, fillA, i7, inx, hap, hi0, hn, i17]
  · obtain ⟨i17, i1, _, hA⟩ := hI
    obtain ⟨i7, h1⟩ := hA rfl
    simp -dsimp [i7]
    refine ⟨[1], by decide, ?_, ?_⟩
    · simp [exp1, expC, ixOf, h1]
    · simp [expB, h1, roL]
theorem awake2_ok : OkF Tryd.prog 15 [] (.bool true, []) := by
  refine OkF.W0 hm h15 (of_decide_eq_true rfl) ?_
  unfold c15
  have e : toRO (upd none0 0 (some ⟨0, 1, [.int .i64 19], none⟩)) 8 (.sl 0 0 0 1 (some 1)) = some (rI [19]) := rfl
  simp -dsimp [fillA, e]
  refine ⟨_, (.tup [.sl 0 0 0 1 none, .int .i64 0], [⟨0, 1, [.int .i64 3], none⟩]), rfl, rolled_19, rfl, ?_⟩
  have hia : ∀ K, iaddrK (upd (upd none0 0 (some ⟨0, 1, [.int .i64 19], none⟩)) 1 (some ⟨0, 1, [.int .i64 3], none⟩)) (.sl 1 0 0 1 none) (.int .i64 0) 1 K ⟨⟩ = K (.pt 1 0 0) [1] := fun K => by
    rw [show ((0 : Int)) = ((0 : Nat) : Int) from rfl, iaddr_sl (b := ⟨0, 1, [.int .i64 3], none⟩) rfl rfl (by decide)]
  simp -dsimp [hia, addB]
end Go.Proofs.P4

