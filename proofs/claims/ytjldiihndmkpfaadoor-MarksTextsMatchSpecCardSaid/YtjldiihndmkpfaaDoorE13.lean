/- strings.Split as a contract; lines of several words, in plain Lean. -/
import Derived.Test.YtjldiihndmkpfaaDoorE11
import Derived.Test.YtjldiihndmkpfaaDoorD2a
import Derived.Lib.SplitLaws
set_option linter.unusedVariables false
set_option linter.unusedSimpArgs false
set_option maxRecDepth 10000
set_option maxHeartbeats 8000000
namespace Go.Proofs.P4
open Go.Ex Go.RowKit
def words (s : List UInt8) : List (List UInt8) := Lib.split s [32]
theorem split_hit {s : List UInt8} {i : Nat} (h : Lib.indexByte s 32 = i) : words s = s.take i :: words (s.drop (i + 1)) := by
  have hi : Lib.index s [32] = i := by rw [index_byte, h]
  have hm : ¬ (Lib.index s [32] == -1) = true := fun e => by have := beq_iff_eq.1 e; omega
  unfold words Lib.split
  rw [Lib.count_hit (by simp) hi, Nat.add_comm, Lib.splitK, if_neg hm, hi]
  simp
theorem split_miss {s : List UInt8} (h : Lib.indexByte s 32 = -1) : words s = [s] := by
  have hi : Lib.index s [32] = -1 := by rw [index_byte, h]
  unfold words Lib.split
  rw [Lib.count_miss hi]
  rfl
theorem words_cons {a r : List UInt8} (h : (32 : UInt8) ∉ a) : words (a ++ 32 :: r) = a :: words r := by
  rw [split_hit (ib_hit a r 32 h)]
  simp
theorem words_one {a : List UInt8} (h : (32 : UInt8) ∉ a) : words a = [a] := split_miss (ib_none a 32 h)
theorem ib_cut : ∀ (s : List UInt8) (c : UInt8) (i : Nat), Lib.indexByte s c = i → s = s.take i ++ c :: s.drop (i + 1)
  | [], c, i, h => by simp [Lib.indexByte] at h
  | a :: s, c, i, h => by
    rw [Lib.indexByte] at h
    by_cases q : a = c
    · subst q
      simp at h
      have : i = 0 := by omega
      subst this
      simp
    · have q' : (a == c) = false := by simpa using q
      simp only [q', Bool.false_eq_true, if_false] at h
      split at h
      · omega
      · cases i with
        | zero => have := (ib_lt s c).2; rename_i q2; have : ¬ Lib.indexByte s c = -1 := fun e => q2 (by rw [e]; rfl)
                  omega
        | succ i =>
          have := ib_cut s c i (by omega)
          rw [List.take_succ_cons, List.drop_succ_cons, List.cons_append, ← this]
theorem words_eq : ∀ (n : Nat) (s : List UInt8), s.length ≤ n → (∃ a, words s = [a] ∧ s = a) ∨ ∃ a t r, words s = a :: words t ∧ s = a ++ 32 :: t ∧ r = t
  | n, s, _ => by
    have hb := (ib_lt s 32).2
    by_cases h : Lib.indexByte s 32 = -1
    · exact .inl ⟨s, split_miss h, rfl⟩
    · obtain ⟨i, hi⟩ := Int.eq_ofNat_of_zero_le (show 0 ≤ Lib.indexByte s 32 by omega)
      exact .inr ⟨s.take i, s.drop (i + 1), _, split_hit hi, ib_cut s 32 i hi, rfl⟩
theorem words_nil (s : List UInt8) : words s ≠ [] := by
  rcases words_eq _ s (Nat.le_refl _) with ⟨a, h, _⟩ | ⟨a, t, r, h, _⟩ <;> rw [h] <;> simp
theorem words3 {s a b c : List UInt8} (h : words s = [a, b, c]) : s = a ++ 32 :: (b ++ 32 :: c) := by
  rcases words_eq _ s (Nat.le_refl _) with ⟨x, h1, _⟩ | ⟨x, t, _, h1, h2, _⟩
  · rw [h] at h1; simp at h1
  rw [h] at h1
  injection h1 with h3 h4
  rcases words_eq _ t (Nat.le_refl _) with ⟨y, h5, _⟩ | ⟨y, u, _, h5, h6, _⟩
  · rw [← h4] at h5; simp at h5
  rw [← h4] at h5
  injection h5 with h7 h8
  rcases words_eq _ u (Nat.le_refl _) with ⟨z, h9, h10⟩ | ⟨z, v, _, h9, _, _⟩
  · rw [← h8] at h9
    injection h9 with h11
    rw [h2, h6, h10, h3, h7, h11]
  · rw [← h8] at h9
    injection h9 with h11 h12
    exact absurd h12.symm (words_nil v)
abbrev rS (l : List (List UInt8)) : V := .ro l.length (fl Cd.str l)
theorem fl_str : ∀ l : List (List UInt8), fl Cd.str l = l.map .str
  | [] => rfl
  | a :: l => by
    have ih := fl_str l
    unfold fl at ih ⊢
    rw [List.flatMap_cons, ih]
    rfl
theorem words_len (s : List UInt8) : (words s).length = Lib.countB ⟨s.toArray⟩ ⟨#[32]⟩ + 1 := by
  have := Lib.splitB_all ⟨#[32]⟩ (by decide) 0 _ ⟨s.toArray⟩ rfl
  have hd : (Lib.splitB ⟨#[32]⟩ 0 (Lib.countB ⟨s.toArray⟩ ⟨#[32]⟩) ⟨s.toArray⟩).map (fun x : ByteArray => x.data.toList) = words s := by
    rw [Lib.splitB_data]
    rfl
  rw [← this, ← hd, List.length_map]
theorem Split_ok (s : List UInt8) (hs : s.length < 4294967281) : OkF Tryd.prog 48 [.str s, .str [32]] (rS (words s), []) := by
  refine ⟨fun b hb => (by cases hb), fun w S φ0 vs hG hS hv => ?_⟩
  obtain ⟨x, y, rfl, hx, hy⟩ := reps2 hv
  have := rep_str hx
  subst this
  have := rep_str hy
  subst this
  obtain ⟨m, hm⟩ := gLen hG
  have hlen := words_len s
  refine (Tryd.strings_Split ⟨s.toArray⟩ ⟨#[32]⟩ m w (by simpa [ByteArray.size] using hs) hm (by decide)).mono fun e w' he => ?_
  obtain ⟨rfl, rfl⟩ := he
  have hd : (Lib.splitB ⟨#[32]⟩ 0 (Lib.countB ⟨s.toArray⟩ ⟨#[32]⟩) ⟨s.toArray⟩).map (·.data.toList) = words s := by
    rw [Lib.splitB_data]
    rfl
  generalize Lib.splitB ⟨#[32]⟩ 0 (Lib.countB ⟨s.toArray⟩ ⟨#[32]⟩) ⟨s.toArray⟩ = L at *
  rw [← hlen, ← hd]
  have hb := (Below.refl w.heap.size w).alloc (Nat.le_refl _) (.cells (L.map Value.string).toArray 9)
  refine ⟨_, φ0, fun r => S r ∨ r = w.heap.size, rfl, ⟨hb, hG, fun r hr => ?_, fun id b hb => (by cases hb), fun i j b c hi => (by cases hi)⟩, fun r h => .inl h, fun r h hl => ?_, ?_⟩
  · rcases hr with q | q
    · exact Nat.lt_of_lt_of_le (hS r q) hb.size
    · subst q
      simp
  · rcases h with q | q
    · exact q
    · omega
  · refine .ro _ _ _ _ (L.map Value.string).toArray (Nat.le_refl _) (fl_pure _) (fun _ => ⟨rfl, .inr rfl, (L.map Value.string).toArray, 9, (0, 0), alloc_at _, ?_, ?_, fun i v hi hv => ?_⟩) (fun i x v hx hv => ?_)
    · simp [fl_str]
    · simp [fl_str]
      rw [List.take_of_length_le (by simp)]
    · simp at hv
      obtain ⟨a, _, rfl⟩ := hv
      rfl
    · rw [fl_str] at hx
      simp at hx hv
      obtain ⟨a, ha, rfl⟩ := hx
      rw [ha] at hv
      simp at hv
      subst hv
      exact .str a
end Go.Proofs.P4

