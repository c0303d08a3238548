/- Lines of a text, and banks read of them: our side. -/
import Derived.Test.YtjldiihndmkpfaaDoorE2
set_option linter.unusedVariables false
set_option linter.unusedSimpArgs false
set_option maxRecDepth 10000
set_option maxHeartbeats 8000000
namespace Go.Proofs.P4
open Go.Ex
/-- Each line is taken, one by one: what comes of it, and the number of the line that is not taken. -/
def rdG {β : Type} (st : List UInt8 → β → β × Bool) : Nat → List UInt8 → Int → β → β × Int
  | 0, _, n, b => (b, n)
  | f + 1, text, n, b => if text = [] then (b, 0) else if Lib.indexByte text 10 < 0 then (b, n) else
      if (st (text.take (Lib.indexByte text 10).toNat) b).2 = true then rdG st f (text.drop ((Lib.indexByte text 10).toNat + 1)) (n + 1) (st (text.take (Lib.indexByte text 10).toNat) b).1
      else ((st (text.take (Lib.indexByte text 10).toNat) b).1, n)
theorem ib_lt : ∀ (s : List UInt8) (c : UInt8), Lib.indexByte s c < (s.length : Int) ∧ -1 ≤ Lib.indexByte s c
  | [], c => by simp [Lib.indexByte]
  | a :: r, c => by
    have := ib_lt r c
    unfold Lib.indexByte
    simp only [List.length_cons]
    split
    · omega
    · split
      · omega
      · omega
def LI {β : Type} (st : List UInt8 → β → β × Bool) (Inv : Nat → β → Hp → Nat → Prop) (text : List UInt8) (b0 : β) (fv : V) (n : Nat) (t : St) : Prop := ∃ (f k : Nat) (tx : List UInt8) (b : β), n = tx.length ∧ tx.length < f ∧ k + tx.length ≤ text.length ∧ rdG st f tx ((k : Int) + 1) b = rdG st (text.length + 1) text 1 b0 ∧ t.t 0 = .str tx ∧ t.t 1 = fv ∧ t.t 5 = .int .i64 ((k + 1 : Nat) : Int) ∧ Inv k b t.h t.nx
theorem lines_ex {β : Type} {st : List UInt8 → β → β × Bool} {Inv : Nat → β → Hp → Nat → Prop} {F : Nat} {caps : List V} {h : Hp} {nx : Nat} {text : List UInt8} {b0 : β} (hl : text.length < 4000000000) (hF : hasBody Tryd.prog F = true)
    (hc : ∀ (k : Nat) (line : List UInt8) (b : β) (h : Hp) (nx : Nat), line.length ≤ text.length → k < text.length → Inv k b h nx → SEx Tryd.prog F ([.str line] ++ caps) h nx (fun v h' nx' => v = .bool (st line b).2 ∧ Inv (k + 1) (st line b).1 h' nx')) (h0 : Inv 0 b0 h nx) :
    SEx Tryd.prog 46 [.str text, .fn F caps] h nx (fun v h' nx' => v = .int .i64 (rdG st (text.length + 1) text 1 b0).2 ∧ ∃ k, Inv k (rdG st (text.length + 1) text 1 b0).1 h' nx') := by
  refine SEx.of hm h46 (of_decide_eq_true rfl) ?_
  unfold c46
  simp -dsimp
  refine loop_dec (LI st Inv text b0 (.fn F caps)) text.length ⟨text.length + 1, 0, text, b0, rfl, by omega, by omega, by simp, by simp -dsimp, by simp -dsimp, by simp -dsimp, by simp -dsimp; exact h0⟩ (fun n t hI => ?_)
  obtain ⟨f, k, tx, b, hn, hf, hk, he, i0, i1, i5, hI⟩ := hI
  generalize hR : rdG st (text.length + 1) text 1 b0 = R at *
  unfold l46_0
  cases f with
  | zero => omega
  | succ f =>
  by_cases c0 : tx = []
  · subst c0
    rw [rdG, if_pos rfl] at he
    simp -dsimp [i0]
    rw [← he]
    exact ⟨rfl, k, by simp -dsimp; exact hI⟩
  have hp : 0 < tx.length := List.length_pos_iff.2 c0
  have hib := IndexByte_ok tx 10
  have hlt := ib_lt tx 10
  have e10 : ((10 : Int).toNat.toUInt8) = (10 : UInt8) := rfl
  rw [e10] at hib
  rw [rdG, if_neg c0] at he
  simp -dsimp [i0, c0]
  refine call_pure hib (by simp) rfl ?_
  generalize Lib.indexByte tx 10 = ix at *
  simp -dsimp
  by_cases c1 : ix < 0
  · rw [if_pos c1] at he
    simp -dsimp [c1, i5]
    rw [← he]
    exact ⟨by simp, k, by simp -dsimp; exact hI⟩
  rw [if_neg c1] at he
  obtain ⟨i, rfl⟩ := Int.eq_ofNat_of_zero_le (show 0 ≤ ix by omega)
  simp only [Int.toNat_natCast] at he
  have hi : i < tx.length := by omega
  have hs := hc k (tx.take i) b t.h t.nx (by rw [List.length_take]; omega) (by omega) hI
  generalize st (tx.take i) b = r at *
  have hi' : i ≤ tx.length := by omega
  have hi1 : i + 1 ≤ tx.length := hi
  have w1 : IntKind.i64.wrap ((i : Int) + 1) = ((i + 1 : Nat) : Int) := by rw [w_i64 (by omega) (by omega)]; omega
  have w2 : IntKind.i64.wrap (((k + 1 : Nat) : Int) + 1) = ((k + 1 + 1 : Nat) : Int) := by rw [w_i64 (by omega) (by omega)]; omega
  have sl : ∀ (h : Hp) (nx : Nat) (K : V → Hp → Nat → Option (List Nat) → Option (List Nat) → Prop), slcK true (.str tx) (some (.int .i64 ((i + 1 : Nat) : Int))) none 1 h nx K ⟨⟩ = K (.str (tx.drop (i + 1))) h nx (some []) (some []) := fun h nx K => by
    rw [slcK_str]
    simp only [slcA, loHi, Int.natCast_nonneg, true_and]
    rw [if_pos (by omega)]
    simp only [Int.toNat_natCast, Option.map_some, optK_some]
    rw [List.take_of_length_le (by rw [List.length_drop]; omega)]
  generalize hii : i + 1 = i' at *
  generalize hkk : k + 1 = k' at *
  simp -dsimp [c1, i0, i1, hi']
  refine calv_ex hF hs ?_
  rintro v h' nx' ⟨rfl, hI'⟩
  obtain ⟨b', ok⟩ := r
  simp only at he hI'
  cases ok with
  | false =>
    rw [if_neg (by simp)] at he
    simp -dsimp [i5]
    rw [← he]
    exact ⟨by simp only; omega, k', hI'⟩
  | true =>
    rw [if_pos rfl] at he
    simp -dsimp [i0, i5, w1, sl, w2]
    refine ⟨(tx.drop i').length, by rw [hn, List.length_drop]; omega, f, k', tx.drop i', b', rfl, by rw [List.length_drop]; omega, by rw [List.length_drop]; omega, ?_, by simp -dsimp, by simp -dsimp [i1], by simp -dsimp, hI'⟩
    rw [hR, ← he]
    congr 1
    omega
end Go.Proofs.P4

