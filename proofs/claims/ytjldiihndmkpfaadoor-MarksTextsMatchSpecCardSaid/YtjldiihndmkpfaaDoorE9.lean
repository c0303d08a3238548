/- The texts of banks, both sides. -/
import Derived.Test.YtjldiihndmkpfaaDoorE8
import Derived.Lib.ItoaLen
set_option linter.unusedVariables false
set_option linter.unusedSimpArgs false
set_option maxRecDepth 10000
set_option maxHeartbeats 8000000
namespace Go.Proofs.P4
open Go.Ex
theorem unb : ∀ s : List UInt8, unbytes (bytesV s) = some s
  | [] => rfl
  | b :: r => by
    have ih := unb r
    unfold bytesV at ih ⊢
    rw [List.map_cons, unbytes, ih]
    simp
theorem b2s_of {P : Program} {x : X} {s : St} {K : V → Hp → Nat → Option (List Nat) → Option (List Nat) → Prop} {nx : Nat} {v : V} {l : List UInt8} (ha : Acc byteCd s.h nx v l) (hv : X.ev s.t x = v) (hK : K (.str l) s.h s.nx (some (idOf v)) (some [])) : SI P (.b2s x) s K ⟨⟩ ⟨⟩ := by
  have he := ha.elems
  rw [fl_bytes] at he
  have hz : byteCd.sz = 1 := rfl
  rw [hz] at he
  simp only [SI, stepI, opA, hv, he, unb, Option.map_some]
  exact hK
def lineT (c w : Int) : List UInt8 := Lib.itoa c ++ [32] ++ Lib.itoa w ++ [10]
def tx (b : Bank) : Nat → List UInt8
  | 0 => []
  | k + 1 => tx b k ++ lineT (lAt b.1 k) (lAt b.2 k)
def textF (b : Bank) : List UInt8 × Int := if bankE b ≠ 0 then ([], bankE b) else if 50000 < (tx b b.1.length).length then ([], 2) else (tx b b.1.length, 0)
def in64 (n : Int) : Prop := -9223372036854775808 ≤ n ∧ n ≤ 9223372036854775807
theorem tx_len {b : Bank} : ∀ k, (∀ i, i < k → in64 (lAt b.1 i) ∧ in64 (lAt b.2 i)) → (tx b k).length ≤ 44 * k
  | 0, _ => Nat.le_refl _
  | k + 1, h => by
    have ih := tx_len (b := b) k fun i hi => h i (by omega)
    obtain ⟨⟨a1, a2⟩, b1, b2⟩ := h k (by omega)
    have := Lib.itoa_length_le _ a1 a2
    have := Lib.itoa_length_le _ b1 b2
    simp only [tx, lineT, List.length_append, List.length_singleton]
    omega
theorem l_at {l : List Int} {k : Nat} (h : k < l.length) : l[k]? = some (lAt l k) := by
  unfold lAt
  rw [List.getElem?_eq_getElem h]
  rfl
structure TI (b : Bank) (k : Nat) (t : St) : Prop where
  i1 : t.t 1 = .pt 0 0 0
  i14 : t.t 14 = rI b.1
  h0 : t.h 0 = some ⟨0, 0, [rI b.1, rI b.2], none⟩
  nx : 1 ≤ t.nx
  ac : Acc byteCd t.h t.nx (t.t 5) (tx b k)
  ow : ∀ j, ownOf (t.t 5) = some j → 1 ≤ j
theorem bank_in {b : Bank} (h : BankOk b) : ∀ i, i < b.1.length → in64 (lAt b.1 i) ∧ in64 (lAt b.2 i) := fun i hi => by
  have h1 := h.c _ (List.mem_of_getElem? (l_at hi))
  have h2 := h.s _ (List.mem_of_getElem? (l_at (l := b.2) (k := i) (by rw [h.len]; exact hi)))
  unfold inC at h1
  unfold inW at h2
  unfold in64
  omega
theorem Text_ok (b : Bank) : OkF Tryd.prog 21 [bkV b] (.tup [.str (textF b).1, .int .i64 (textF b).2], []) := by
  refine OkF.W0 hm h21 (of_decide_eq_true rfl) ?_
  unfold c21
  have e62 := Go.Ex.e62
  have e47 := Go.Ex.e47
  simp -dsimp
  refine call_pure (CheckBank_ok b) (by simp) rfl ?_
  simp -dsimp
  by_cases hb : bankE b = 0
  rotate_left
  · have e : textF b = ([], bankE b) := by unfold textF; rw [if_pos hb]
    simp -dsimp [hb, e]
  have g := bank_good hb
  have e : textF b = if 50000 < (tx b b.1.length).length then ([], 2) else (tx b b.1.length, 0) := by unfold textF; rw [if_neg (by simpa using hb)]
  have hlen := tx_len b.1.length (bank_in g)
  have hmost := g.most
  have heq := g.len
  simp -dsimp [hb]
  refine for_lt b.1.length (TI b) rfl (by omega) ⟨by simp -dsimp, by simp -dsimp, by simp -dsimp, by simp -dsimp, Acc.nil _ _, fun j hj => (by cases hj)⟩ (by simp -dsimp) (by simp -dsimp) (fun k t hk hI hi hn => ?_) (fun t hI hi hn => ?_)
  · obtain ⟨i1, i14, h0, nx1, ac, ow⟩ := hI
    obtain ⟨⟨a1, a2⟩, b1, b2⟩ := bank_in g k hk
    have ga := l_at hk
    have gb := l_at (l := b.2) (k := k) (by omega)
    have hl := tx_len k (fun i hi => bank_in g i (by omega))
    have hS : tx b (k + 1) = tx b k ++ Lib.itoa (lAt b.1 k) ++ [32] ++ Lib.itoa (lAt b.2 k) ++ [10] := by simp [tx, lineT]
    have hla := Lib.itoa_length_le _ a1 a2
    have hlb := Lib.itoa_length_le _ b1 b2
    generalize lAt b.1 k = x at *
    generalize lAt b.2 k = y at *
    generalize tx b k = T at *
    unfold k21_0
    simp -dsimp [i14, hi, i_ia ga, i_ld ga]
    refine shr_ex (AppendInt_ex ac (by omega) a1 a2) ?_
    rintro v1 h1 nx1' ⟨c1, c2, c3, c4⟩
    have h10 : h1 0 = some ⟨0, 0, [rI b.1, rI b.2], none⟩ := by rw [c3 0 (by omega) (fun q => by have := ow 0 q; omega), h0]
    have o1 : ∀ j, ownOf v1 = some j → 1 ≤ j := fun j hj => by
      rcases c4 j hj with q | q
      · exact ow j q
      · omega
    simp -dsimp [fillA]
    refine app_accW (l' := [(32 : UInt8)]) c1 rfl rfl (by simp; omega) (by simp; omega) fun v2 h2 nx2 rd wr d1 d2 d3 d4 d5 => ?_
    obtain ⟨i', rfl, rfl, f1, f2, f3⟩ := d5 (by simp)
    have h20 : h2 0 = some ⟨0, 0, [rI b.1, rI b.2], none⟩ := by rw [d3 0 (by omega) (fun q => by have := o1 0 q; omega), h10]
    have o2 : ∀ j, ownOf v2 = some j → 1 ≤ j := fun j hj => by
      rcases d4 j hj with q | q
      · exact o1 j q
      · omega
    have m1 : ¬ i' = 0 := fun q => by have := o2 i' f3; omega
    have m2 : ¬ 0 = i' := fun q => by have := o2 i' f3; omega
    simp -dsimp [i1, h20, m1, m2, hi, i_ia gb, i_ld gb]
    refine shr_ex (AppendInt_ex d1 (by simp; omega) b1 b2) ?_
    rintro v3 h3 nx3 ⟨p1, p2, p3, p4⟩
    have h30 : h3 0 = some ⟨0, 0, [rI b.1, rI b.2], none⟩ := by rw [p3 0 (by omega) (fun q => by have := o2 0 q; omega), h20]
    have o3 : ∀ j, ownOf v3 = some j → 1 ≤ j := fun j hj => by
      rcases p4 j hj with q | q
      · exact o2 j q
      · omega
    simp -dsimp [fillA]
    refine app_acc (l' := [(10 : UInt8)]) p1 rfl rfl (by simp; omega) (by simp; omega) fun v4 h4 nx4 q1 q2 q3 q4 => ?_
    simp -dsimp [hi, hn]
    refine ⟨by simp -dsimp [i1], by simp -dsimp [i14], ?_, by simp -dsimp; omega, ?_, fun j hj => ?_⟩
    · simp -dsimp
      rw [q3 0 (by omega) (fun q => by have := o3 0 q; omega), h30]
    · simp -dsimp
      rw [hS]
      exact q1
    · simp -dsimp at hj
      rcases q4 j hj with q | q
      · exact o3 j q
      · omega
  · obtain ⟨i1, i14, h0, nx1, ac, ow⟩ := hI
    generalize tx b b.1.length = T at *
    have hl := ac.len
    simp -dsimp [hl]
    by_cases c : 50000 < T.length
    · have c' : (50000 : Int) < (T.length : Int) := by omega
      rw [if_pos c] at e
      simp -dsimp [c', e]
    · have c' : ¬ (50000 : Int) < (T.length : Int) := by omega
      rw [if_neg c] at e
      simp -dsimp [c', e]
      refine b2s_of ac (by simp -dsimp) ?_
      simp -dsimp
      simp [e]
end Go.Proofs.P4

