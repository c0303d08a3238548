/- Banks read of a text: the reference. -/
import Derived.Test.YtjldiihndmkpfaaDoorE4
set_option linter.unusedVariables false
set_option linter.unusedSimpArgs false
set_option maxRecDepth 10000
set_option maxHeartbeats 8000000
namespace Go.Proofs.P4
open Go.Ex
theorem index_byte : ∀ (s : List UInt8) (c : UInt8), Lib.index s [c] = Lib.indexByte s c
  | [], c => rfl
  | b :: l, c => by
    unfold Lib.index Lib.indexByte
    rw [index_byte l c]
    have : ([c].isPrefixOf (b :: l)) = (b == c) := by
      simp only [List.isPrefixOf, Bool.and_true]
      by_cases h : c = b
      · subst h; rfl
      · rw [beq_eq_false_iff_ne.2 h, beq_eq_false_iff_ne.2 (fun e => h e.symm)]
    rw [this]
theorem cut_miss {s : List UInt8} {c : UInt8} (h : Lib.indexByte s c < 0) : Lib.cut s [c] = (s, [], false) := by
  unfold Lib.cut
  rw [index_byte, if_neg (by omega)]
theorem cut_hit {s : List UInt8} {c : UInt8} {i : Nat} (h : Lib.indexByte s c = i) : Lib.cut s [c] = (s.take i, s.drop (i + 1), true) := by
  unfold Lib.cut
  rw [index_byte, h, if_pos (by omega)]
  rfl
def RRI (text : List UInt8) (n : Nat) (t : St) : Prop := ∃ (f k : Nat) (tx : List UInt8) (b : Bank), n = tx.length ∧ tx.length < f ∧ k + tx.length ≤ text.length ∧ rdG stB f tx ((k : Int) + 1) b = rdG stB (text.length + 1) text 1 ([], []) ∧ t.t 0 = .str tx ∧ t.t 2 = .pt 0 0 0 ∧ t.t 5 = .pt 1 0 0 ∧ t.t 6 = .int .i64 ((k + 1 : Nat) : Int) ∧ BInv k b t.h t.nx
def RRO (text : List UInt8) (e : E) (t : St) : Prop := (e = .exit 0 ∧ ∃ (k : Nat) (b : Bank), rdG stB (text.length + 1) text 1 ([], []) = (b, 0) ∧ t.t 2 = .pt 0 0 0 ∧ t.t 5 = .pt 1 0 0 ∧ BInv k b t.h t.nx) ∨ (e = .ret ∧ ∃ (b : Bank) (n : Int), rdG stB (text.length + 1) text 1 ([], []) = (b, n) ∧ 0 < n ∧ t.t 2 = .pt 0 0 0 ∧ t.t 3 = .int .i64 n ∧ t.t 4 = .int .i64 10 ∧ t.h 0 = some ⟨0, 0, [.ns, .ns], none⟩)
theorem readR_loop {text : List UInt8} (hl : text.length < 4000000000) {n : Nat} {t : St} (hI : RRI text n t) : LP Tryd.prog l26_0 (RRO text) t ⟨⟩ ⟨⟩ := by
  refine loop_dec (RRI text) n hI (fun n t hI => ?_)
  obtain ⟨f, k, tx, b, hn, hf, hk, he, i0, i2, i5, i6, hB⟩ := hI
  have e62 := Go.Ex.e62
  generalize hR : rdG stB (text.length + 1) text 1 ([], []) = R at he
  unfold l26_0
  cases f with
  | zero => omega
  | succ f =>
  by_cases c0 : tx = []
  · subst c0
    rw [rdG, if_pos rfl] at he
    simp -dsimp [i0]
    exact .inl ⟨rfl, k, b, hR.trans he.symm, by simp -dsimp [i2], by simp -dsimp [i5], hB⟩
  have hp : 0 < tx.length := List.length_pos_iff.2 c0
  have hlt := ib_lt tx 10
  rw [rdG, if_neg c0] at he
  have hcut := Cut_ok tx [10] (by omega)
  by_cases c1 : Lib.indexByte tx 10 < 0
  · rw [if_pos c1] at he
    rw [cut_miss c1] at hcut
    have hcut2 := Cut_ok tx [32] (by omega)
    have hd1 := number_ok (Lib.cut tx [32]).1
    have hd2 := number_ok (Lib.cut tx [32]).2.1
    generalize digV (Lib.cut tx [32]).1 9 = d1 at *
    generalize digV (Lib.cut tx [32]).2.1 9 = d2 at *
    generalize Lib.cut tx [32] = cc at *
    obtain ⟨x, y, ok⟩ := cc
    obtain ⟨n1, k1⟩ := d1
    obtain ⟨n2, k2⟩ := d2
    simp only at *
    simp -dsimp [i0, c0]
    refine call_pure hcut (by simp) (by simp [V.pure, V.pureL]) ?_
    simp -dsimp
    refine call_pure hcut2 (by simp) (by simp [V.pure, V.pureL]) ?_
    simp -dsimp
    refine call_pure hd1 (by simp) (by simp [V.pure, V.pureL]) ?_
    simp -dsimp
    refine call_pure hd2 (by simp) (by simp [V.pure, V.pureL]) ?_
    simp -dsimp [fillS, i2, hB.h0, i6]
    exact .inr ⟨rfl, b, _, hR.trans he.symm, by omega, by simp -dsimp [i2], by simp -dsimp, by simp -dsimp, by simp -dsimp⟩
  · rw [if_neg c1] at he
    obtain ⟨i, hi⟩ := Int.eq_ofNat_of_zero_le (show 0 ≤ Lib.indexByte tx 10 by omega)
    rw [cut_hit hi] at hcut
    rw [hi] at he hlt
    simp only [Int.toNat_natCast] at he
    have hcut2 := Cut_ok (tx.take i) [32] (by rw [List.length_take]; omega)
    have hd1 := number_ok (Lib.cut (tx.take i) [32]).1
    have hd2 := number_ok (Lib.cut (tx.take i) [32]).2.1
    have hS : stB (tx.take i) b = ((b.1 ++ [(digV (Lib.cut (tx.take i) [32]).1 9).1], b.2 ++ [(digV (Lib.cut (tx.take i) [32]).2.1 9).1]), (Lib.cut (tx.take i) [32]).2.2 && (digV (Lib.cut (tx.take i) [32]).1 9).2 && (digV (Lib.cut (tx.take i) [32]).2.1 9).2) := rfl
    rw [hS] at he
    generalize digV (Lib.cut (tx.take i) [32]).1 9 = d1 at *
    generalize digV (Lib.cut (tx.take i) [32]).2.1 9 = d2 at *
    generalize Lib.cut (tx.take i) [32] = cc at *
    obtain ⟨x, y, ok⟩ := cc
    obtain ⟨n1, k1⟩ := d1
    obtain ⟨n2, k2⟩ := d2
    obtain ⟨c, s⟩ := b
    simp only at *
    have bad : (ok && k1 && k2) = false → R = ((c ++ [n1], s ++ [n2]), (k : Int) + 1) := fun h => by rw [← he, if_neg (by rw [h]; simp)]
    have good : (ok && k1 && k2) = true → rdG stB f (tx.drop (i + 1)) ((k : Int) + 1 + 1) (c ++ [n1], s ++ [n2]) = R := fun h => by rw [← he, if_pos h]
    clear he
    have w2 : IntKind.i64.wrap ((k : Int) + 1 + 1) = (k : Int) + 1 + 1 := w_i64 (by omega) (by omega)
    simp -dsimp [i0, c0]
    refine call_pure hcut (by simp) (by simp [V.pure, V.pureL]) ?_
    simp -dsimp
    refine call_pure hcut2 (by simp) (by simp [V.pure, V.pureL]) ?_
    simp -dsimp
    refine call_pure hd1 (by simp) (by simp [V.pure, V.pureL]) ?_
    simp -dsimp
    refine call_pure hd2 (by simp) (by simp [V.pure, V.pureL]) ?_
    by_cases hok : (ok && k1 && k2) = true
    · have hg := good hok
      simp only [Bool.and_eq_true] at hok
      obtain ⟨⟨rfl, rfl⟩, rfl⟩ := hok
      obtain ⟨l1, l2, hnx, h0, v1, v2, hb, a1, a2, o1, o2, dd⟩ := hB
      simp only at *
      have n0 : ¬ t.nx = 1 := by omega
      have n0' : ¬ 1 = t.nx := by omega
      simp -dsimp [i5, hb, fillA, n0, n0']
      refine push_accW (x := n1) a1 rfl rfl (by omega) (by omega) fun v1' h' nx' i' b1 b2 b3 b4 b5 b6 => ?_
      have hb' : h' 1 = some ⟨0, 0, [v1, v2], none⟩ := by rw [b3 1 (by omega) (fun e => by have := o1 1 e; omega), hb]
      have hi1 : 2 ≤ i' := by
        rcases b5 with e | e
        · exact o1 i' e
        · omega
      have hi2 : i' < nx' := b1.own b6
      have a2' : Acc ic h' nx' v2 s := a2.keep (by omega) fun j hj ho => b3 j hj (fun e => dd j e ho)
      have m1 : ¬ i' = 1 := by omega
      have m1' : ¬ 1 = i' := by omega
      have m2 : ¬ i' = nx' := by omega
      have m2' : ¬ nx' = i' := by omega
      have m3 : ¬ nx' = 1 := by omega
      have m3' : ¬ 1 = nx' := by omega
      have m4 : ¬ t.nx = nx' := by omega
      have m4' : ¬ nx' = t.nx := by omega
      simp -dsimp [i5, hb', fillA, n0, n0', m1, m1', m2, m2', m3, m3', m4, m4']
      refine push_accW (x := n2) a2' rfl rfl (by omega) (by omega) fun v2' h2 nx2 ix2 c1 c2 c3 c4 c5 c6 => ?_
      have hb2 : h2 1 = some ⟨0, 0, [v1, v2], none⟩ := by rw [c3 1 (by omega) (fun e => by have := o2 1 e; omega), hb']
      obtain ⟨s1, s2⟩ := acc_st b1
      obtain ⟨s3, s4⟩ := acc_st c1
      have own1 : ∀ j, ownOf v1' = some j → 2 ≤ j ∧ j < nx' := fun j hj => ⟨by
        rcases b4 j hj with e | e
        · exact o1 j e
        · omega, b1.own hj⟩
      have own2 : ∀ j, ownOf v2' = some j → 2 ≤ j := fun j hj => by
        rcases c4 j hj with e | e
        · exact o2 j e
        · omega
      have hd : ∀ j, ownOf v1' = some j → ownOf v2 ≠ some j := fun j hj e => by
        rcases b4 j hj with q | q
        · exact dd j q e
        · have := a2.own e; omega
      have hd' : ∀ j, ownOf v1' = some j → ownOf v2' ≠ some j := fun j hj e => by
        rcases c4 j e with q | q
        · exact hd j hj q
        · have := (own1 j hj).2; omega
      have h20 : h2 0 = some ⟨0, 0, [.ns, .ns], none⟩ := by
        rw [c3 0 (by omega) (fun e => by have := o2 0 e; omega), b3 0 (by omega) (fun e => by have := o1 0 e; omega), h0]
      have fin : ∀ g : Hp, g 0 = h2 0 → (∀ j, 2 ≤ j → g j = h2 j) → g 1 = some ⟨0, 0, [v1', v2'], none⟩ → BInv (k + 1) (c ++ [n1], s ++ [n2]) g nx2 := fun g g0 g2 g1 => by
        refine ⟨by simp [l1], by simp [l2], by omega, by rw [g0, h20], v1', v2', g1, ?_, ?_, fun j hj => (own1 j hj).1, own2, hd'⟩
        · have := b1.keep (h' := h2) (nx' := nx2) (by omega) fun j hj ho => c3 j hj (hd j ho)
          exact this.keep (Nat.le_refl _) fun j hj ho => g2 j (own1 j ho).1
        · exact c1.keep (Nat.le_refl _) fun j hj ho => g2 j (own2 j ho)
      simp -dsimp [-V.cells, -V.storable, i5, i6, hb2, s1, s2, s3, s4, w2]
      refine ⟨(tx.drop (i + 1)).length, by rw [hn, List.length_drop]; omega, f, k + 1, tx.drop (i + 1), (c ++ [n1], s ++ [n2]), rfl, by rw [List.length_drop]; omega, by rw [List.length_drop]; omega, ?_, by simp -dsimp, by simp -dsimp [i2], by simp -dsimp [i5], by simp -dsimp [w2], fin _ (by simp -dsimp) (fun j hj => by simp -dsimp only [upd]; rw [if_neg (by omega), if_neg (by omega)]) (by simp -dsimp)⟩
      rw [hR, ← hg]
      congr 1
    · have hb := bad (by simpa using hok)
      have out : ∀ t' : St, t'.t 2 = .pt 0 0 0 → t'.t 3 = .int .i64 ((k + 1 : Nat) : Int) → t'.t 4 = .int .i64 10 → t'.h 0 = some ⟨0, 0, [.ns, .ns], none⟩ → RRO text .ret t' := fun t' e2 e3 e4 eh => .inr ⟨rfl, _, _, hR.trans hb, by omega, e2, e3, e4, eh⟩
      cases ok <;> cases k1 <;> cases k2 <;> first | exact absurd rfl hok | (simp -dsimp [fillS, i2, hB.h0, i6]; exact out _ (by simp -dsimp [i2]) (by simp -dsimp) (by simp -dsimp) (by simp -dsimp))
theorem ReadTextR_ok (text : List UInt8) : OkF Tryd.prog 26 [.str text] (.tup [bkV (readF text).1, .int .i64 (readF text).2.1, .int .i64 (readF text).2.2], []) := by
  refine OkF.G0 hm h26 (of_decide_eq_true rfl) ?_
  unfold c26
  by_cases c0 : 50000 < text.length
  · have c0' : (50000 : Int) < (text.length : Int) := by omega
    have e : readF text = (([], []), 0, 2) := by unfold readF; rw [if_pos c0]
    simp -dsimp [c0', fillS, e]
  have c0' : ¬ (50000 : Int) < (text.length : Int) := by omega
  have e : readF text = if 0 < (rdG stB (text.length + 1) text 1 ([], [])).2 then (([], []), (rdG stB (text.length + 1) text 1 ([], [])).2, 10) else
    if bankE (rdG stB (text.length + 1) text 1 ([], [])).1 ≠ 0 then (([], []), 0, bankE (rdG stB (text.length + 1) text 1 ([], [])).1) else ((rdG stB (text.length + 1) text 1 ([], [])).1, 0, 0) := by unfold readF; rw [if_neg c0]
  simp -dsimp [c0']
  refine LP_cut _ (readR_loop (text := text) (by omega) (n := text.length) ⟨text.length + 1, 0, text, ([], []), rfl, by omega, by omega, by simp, by simp -dsimp, by simp -dsimp, by simp -dsimp, by simp -dsimp, rfl, rfl, by simp -dsimp, by simp -dsimp, .ns, .ns, by simp -dsimp, Acc.nil _ _, Acc.nil _ _, fun j hj => (by cases hj), fun j hj => (by cases hj), fun j hj => (by cases hj)⟩) ?_
  rintro ee t (⟨rfl, k, ⟨c, s⟩, hR, t2, t5, l1, l2, hnx, h0, v1, v2, hb, a1, a2, o1, o2, dd⟩ | ⟨rfl, b, n, hR, hn, t2, t3, t4, h0⟩)
  · rw [hR] at e
    rw [if_neg (by simp)] at e
    simp only at *
    have hro := toRO_agg2 (n := 7) a1 a2
    simp -dsimp [t5, hb, hro]
    refine call_int (CheckBankR_ok (c, s)) ?_
    simp -dsimp
    by_cases c2 : bankE (c, s) = 0
    · rw [if_neg (by simpa using c2)] at e
      have x1 : ∀ b : Option LB, expC (upd t.h 0 b) [] 8 v1 = some (rI c) := fun b => (a1.keep (h' := upd t.h 0 b) (Nat.le_refl _) fun j hj ho => by
        have := o1 j ho
        simp only [upd]
        rw [if_neg (by omega)]).exC (n := 7)
      have x2 : ∀ b : Option LB, expC (upd t.h 0 b) [] 8 v2 = some (rI s) := fun b => (a2.keep (h' := upd t.h 0 b) (Nat.le_refl _) fun j hj ho => by
        have := o2 j ho
        simp only [upd]
        rw [if_neg (by omega)]).exC (n := 7)
      simp -dsimp [c2, t5, t2, hb, h0, e]
      simp [x1, x2]
    · rw [if_pos c2] at e
      simp -dsimp [c2, fillS, e, t2, h0]
  · rw [hR, if_pos hn] at e
    simp -dsimp [t2, t3, t4, h0, e]
end Go.Proofs.P4

