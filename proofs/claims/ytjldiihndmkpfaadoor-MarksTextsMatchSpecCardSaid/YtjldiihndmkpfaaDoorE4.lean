/- Banks read of a text: our side. -/
import Derived.Test.YtjldiihndmkpfaaDoorE3
set_option linter.unusedVariables false
set_option linter.unusedSimpArgs false
set_option maxRecDepth 10000
set_option maxHeartbeats 8000000
namespace Go.Proofs.P4
open Go.Ex
theorem acc_st {α : Type} {d : Cd α} {h : Hp} {nx : Nat} {v : V} {l : List α} (a : Acc d h nx v l) : v.cells = [v] ∧ v.storable = true := by
  rcases a.isV with rfl | ⟨_, _, _, _, rfl⟩ <;> exact ⟨rfl, rfl⟩
theorem toRO_agg2 {h : Hp} {nx n : Nat} {v1 v2 : V} {l1 l2 : List Int} (a1 : Acc ic h nx v1 l1) (a2 : Acc ic h nx v2 l2) : toRO h (n + 1) (.agg [v1, v2]) = some (bkV (l1, l2)) := by
  have c1 := a1.cell (n := n)
  have c2 := a2.cell (n := n)
  have hp : V.pureL [v1, v2] = false := by
    rcases a1.isV with rfl | ⟨_, _, _, _, rfl⟩ <;> rfl
  unfold toRO
  simp only [hp]
  simp [c1, c2]
/-- A line with two numbers. -/
def pairV (line : List UInt8) : (Int × Int) × Bool :=
  (((digV (Lib.cut line [32]).1 9).1, (digV (Lib.cut line [32]).2.1 9).1), (Lib.cut line [32]).2.2 && (digV (Lib.cut line [32]).1 9).2 && (digV (Lib.cut line [32]).2.1 9).2)
def stB (line : List UInt8) (b : Bank) : Bank × Bool := ((b.1 ++ [(pairV line).1.1], b.2 ++ [(pairV line).1.2]), (pairV line).2)
structure BInv (k : Nat) (b : Bank) (h : Hp) (nx : Nat) : Prop where
  l1 : b.1.length = k
  l2 : b.2.length = k
  nx2 : 2 ≤ nx
  h0 : h 0 = some ⟨0, 0, [.ns, .ns], none⟩
  ex : ∃ v1 v2, h 1 = some ⟨0, 0, [v1, v2], none⟩ ∧ Acc ic h nx v1 b.1 ∧ Acc ic h nx v2 b.2 ∧ (∀ j, ownOf v1 = some j → 2 ≤ j) ∧ (∀ j, ownOf v2 = some j → 2 ≤ j) ∧ ∀ j, ownOf v1 = some j → ownOf v2 ≠ some j
theorem read1_body : hasBody Tryd.prog 57 = true := by kernel_rfl
theorem read1_ex {k : Nat} {line : List UInt8} {b : Bank} {h : Hp} {nx : Nat} (hl : line.length < 4000000000) (hk : k < 4000000000) (hI : BInv k b h nx) :
    SEx Tryd.prog 57 ([.str line] ++ [.pt 1 0 0]) h nx (fun v h' nx' => v = .bool (stB line b).2 ∧ BInv (k + 1) (stB line b).1 h' nx') := by
  obtain ⟨l1, l2, hnx, h0, v1, v2, hb, a1, a2, o1, o2, dd⟩ := hI
  refine SEx.of hm h57 (of_decide_eq_true rfl) ?_
  unfold c57
  have e62 := Go.Ex.e62
  have hcut := Cut_ok line [32] (by omega)
  have hd1 := Digits_ok (Lib.cut line [32]).1 9 (by decide)
  have hd2 := Digits_ok (Lib.cut line [32]).2.1 9 (by decide)
  have hS : stB line b = ((b.1 ++ [(digV (Lib.cut line [32]).1 9).1], b.2 ++ [(digV (Lib.cut line [32]).2.1 9).1]), (Lib.cut line [32]).2.2 && (digV (Lib.cut line [32]).1 9).2 && (digV (Lib.cut line [32]).2.1 9).2) := rfl
  rw [hS]
  generalize digV (Lib.cut line [32]).1 9 = d1 at *
  generalize digV (Lib.cut line [32]).2.1 9 = d2 at *
  generalize Lib.cut line [32] = cc at *
  obtain ⟨x, y, ok⟩ := cc
  obtain ⟨n1, k1⟩ := d1
  obtain ⟨n2, k2⟩ := d2
  obtain ⟨c, s⟩ := b
  simp only at *
  have n0 : ¬ nx = 1 := by omega
  have n0' : ¬ 1 = nx := by omega
  simp -dsimp
  refine call_pure hcut (by simp) (by simp [V.pure, V.pureL]) ?_
  simp -dsimp
  refine call_pure hd1 (by simp) (by simp [V.pure, V.pureL]) ?_
  simp -dsimp
  refine call_pure hd2 (by simp) (by simp [V.pure, V.pureL]) ?_
  simp -dsimp [hb, fillA, n0, n0']
  refine push_accW (x := n1) a1 rfl rfl (by omega) (by omega) fun v1' h' nx' i b1 b2 b3 b4 b5 b6 => ?_
  have hb' : h' 1 = some ⟨0, 0, [v1, v2], none⟩ := by rw [b3 1 (by omega) (fun e => by have := o1 1 e; omega), hb]
  have hi1 : 2 ≤ i := by
    rcases b5 with e | e
    · exact o1 i e
    · omega
  have hi2 : i < nx' := b1.own b6
  have a2' : Acc ic h' nx' v2 s := a2.keep (by omega) fun j hj ho => b3 j hj (fun e => dd j e ho)
  have m1 : ¬ i = 1 := by omega
  have m1' : ¬ 1 = i := by omega
  have m2 : ¬ i = nx' := by omega
  have m2' : ¬ nx' = i := by omega
  have m3 : ¬ nx' = 1 := by omega
  have m3' : ¬ 1 = nx' := by omega
  have m4 : ¬ nx = nx' := by omega
  have m4' : ¬ nx' = nx := by omega
  simp -dsimp [hb', fillA, n0, n0', m1, m1', m2, m2', m3, m3', m4, m4']
  refine push_accW (x := n2) a2' rfl rfl (by omega) (by omega) fun v2' h2 nx2 ix2 c1 c2 c3 c4 c5 c6 => ?_
  have hb2 : h2 1 = some ⟨0, 0, [v1, v2], none⟩ := by rw [c3 1 (by omega) (fun e => by have := o2 1 e; omega), hb']
  obtain ⟨s1, s2⟩ := acc_st b1
  obtain ⟨s3, s4⟩ := acc_st c1
  have own1 : ∀ j, ownOf v1' = some j → 2 ≤ j ∧ j < nx' := fun j hj => ⟨by
    rcases b4 j hj with e | e
    · exact o1 j e
    · omega, b1.own hj⟩
  have own2 : ∀ j, ownOf v2' = some j → 2 ≤ j := fun j hj => by
    rcases c4 j hj with e | e
    · exact o2 j e
    · omega
  have hd : ∀ j, ownOf v1' = some j → ownOf v2 ≠ some j := fun j hj e => by
    rcases b4 j hj with q | q
    · exact dd j q e
    · have := a2.own e; omega
  have hd' : ∀ j, ownOf v1' = some j → ownOf v2' ≠ some j := fun j hj e => by
    rcases c4 j e with q | q
    · exact hd j hj q
    · have := (own1 j hj).2; omega
  have h20 : h2 0 = some ⟨0, 0, [.ns, .ns], none⟩ := by
    rw [c3 0 (by omega) (fun e => by have := o2 0 e; omega), b3 0 (by omega) (fun e => by have := o1 0 e; omega), h0]
  have fin : ∀ g : Hp, g 0 = h2 0 → (∀ j, 2 ≤ j → g j = h2 j) → g 1 = some ⟨0, 0, [v1', v2'], none⟩ → BInv (k + 1) (c ++ [n1], s ++ [n2]) g nx2 := fun g g0 g2 g1 => by
    refine ⟨by simp [l1], by simp [l2], by omega, by rw [g0, h20], v1', v2', g1, ?_, ?_, fun j hj => (own1 j hj).1, own2, hd'⟩
    · have := b1.keep (h' := h2) (nx' := nx2) (by omega) fun j hj ho => c3 j hj (hd j ho)
      exact this.keep (Nat.le_refl _) fun j hj ho => g2 j (own1 j ho).1
    · exact c1.keep (Nat.le_refl _) fun j hj ho => g2 j (own2 j ho)
  cases ok <;> cases k1 <;> cases k2 <;> simp -dsimp [-V.cells, -V.storable, hb2, s1, s2, s3, s4] <;> exact fin _ (by simp -dsimp) (fun j hj => by simp only [upd]; rw [if_neg (by omega), if_neg (by omega)]) (by simp -dsimp)
def readF (text : List UInt8) : Bank × Int × Int :=
  if 50000 < text.length then (([], []), 0, 2) else
  if 0 < (rdG stB (text.length + 1) text 1 ([], [])).2 then (([], []), (rdG stB (text.length + 1) text 1 ([], [])).2, 10) else
  if bankE (rdG stB (text.length + 1) text 1 ([], [])).1 ≠ 0 then (([], []), 0, bankE (rdG stB (text.length + 1) text 1 ([], [])).1) else ((rdG stB (text.length + 1) text 1 ([], [])).1, 0, 0)
theorem ReadText_ok (text : List UInt8) : OkF Tryd.prog 24 [.str text] (.tup [bkV (readF text).1, .int .i64 (readF text).2.1, .int .i64 (readF text).2.2], []) := by
  refine OkF.G0 hm h24 (of_decide_eq_true rfl) ?_
  unfold c24
  by_cases c0 : 50000 < text.length
  · have c0' : (50000 : Int) < (text.length : Int) := by omega
    have e : readF text = (([], []), 0, 2) := by unfold readF; rw [if_pos c0]
    simp -dsimp [c0', fillS, e]
  have c0' : ¬ (50000 : Int) < (text.length : Int) := by omega
  have e : readF text = if 0 < (rdG stB (text.length + 1) text 1 ([], [])).2 then (([], []), (rdG stB (text.length + 1) text 1 ([], [])).2, 10) else
    if bankE (rdG stB (text.length + 1) text 1 ([], [])).1 ≠ 0 then (([], []), 0, bankE (rdG stB (text.length + 1) text 1 ([], [])).1) else ((rdG stB (text.length + 1) text 1 ([], [])).1, 0, 0) := by unfold readF; rw [if_neg c0]
  simp -dsimp [c0']
  refine shr_ex (lines_ex (st := stB) (Inv := BInv) (b0 := (([], []) : Bank)) (text := text) (by omega) read1_body (fun k line b h nx h1 h2 hI => read1_ex (by omega) (by omega) hI) ⟨rfl, rfl, by simp, by simp, .ns, .ns, by simp, Acc.nil _ _, Acc.nil _ _, fun j hj => (by cases hj), fun j hj => (by cases hj), fun j hj => (by cases hj)⟩) ?_
  generalize rdG stB (text.length + 1) text 1 ([], []) = r at *
  obtain ⟨⟨c, s⟩, n⟩ := r
  rintro v h' nx' ⟨rfl, k, l1, l2, hnx, h0, v1, v2, hb, a1, a2, o1, o2, dd⟩
  simp only at *
  by_cases c1 : 0 < n
  · rw [if_pos c1] at e
    simp -dsimp [c1, fillS, e, h0, hb]
  rw [if_neg c1] at e
  have hro := toRO_agg2 (n := 7) a1 a2
  simp -dsimp [c1, hb, hro]
  refine call_int (CheckBank_ok (c, s)) ?_
  simp -dsimp
  by_cases c2 : bankE (c, s) = 0
  · rw [if_neg (by simpa using c2)] at e
    have x1 : ∀ b : Option LB, expC (upd h' 0 b) [] 8 v1 = some (rI c) := fun b => (a1.keep (h' := upd h' 0 b) (Nat.le_refl _) fun j hj ho => by
      have := o1 j ho
      simp only [upd]
      rw [if_neg (by omega)]).exC (n := 7)
    have x2 : ∀ b : Option LB, expC (upd h' 0 b) [] 8 v2 = some (rI s) := fun b => (a2.keep (h' := upd h' 0 b) (Nat.le_refl _) fun j hj ho => by
      have := o2 j ho
      simp only [upd]
      rw [if_neg (by omega)]).exC (n := 7)
    simp -dsimp [c2, hb, h0, e]
    simp [x1, x2]
  · rw [if_pos c2] at e
    simp -dsimp [c2, fillS, e, h0, hb]
end Go.Proofs.P4

