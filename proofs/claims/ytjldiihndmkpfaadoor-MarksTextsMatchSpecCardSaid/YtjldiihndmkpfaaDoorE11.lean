/- Digits and lines that are read again, in plain Lean. -/
import Derived.Test.YtjldiihndmkpfaaDoorE10
set_option linter.unusedVariables false
set_option linter.unusedSimpArgs false
set_option maxRecDepth 10000
set_option maxHeartbeats 8000000
namespace Go.Proofs.P4
open Go.Ex
theorem dec_snoc : ∀ (l : List UInt8) (acc n : Nat) (b : UInt8) (d : Nat), Lib.decFrom acc l = some n → Lib.digitVal b = some d → Lib.decFrom acc (l ++ [b]) = some (n * 10 + d)
  | [], acc, n, b, d, h, hd => by
    simp only [Lib.decFrom, Option.some.injEq] at h
    subst h
    simp [Lib.decFrom, hd]
  | a :: r, acc, n, b, d, h, hd => by
    rw [List.cons_append, Lib.decFrom]
    rw [Lib.decFrom] at h
    cases ha : Lib.digitVal a with
    | none => rw [ha] at h; cases h
    | some e =>
      rw [ha] at h
      exact dec_snoc r _ n b d h hd
theorem dig_of {i : Nat} (h : i < 10) : Lib.digitVal (UInt8.ofNat (48 + i)) = some i := by
  have : ∀ i : Fin 10, Lib.digitVal (UInt8.ofNat (48 + i.val)) = some i.val := by decide +kernel
  exact this ⟨i, h⟩
theorem dig_byte {i : Nat} (h : i < 10) : 48 ≤ (UInt8.ofNat (48 + i)).toNat ∧ (UInt8.ofNat (48 + i)).toNat ≤ 57 := by
  have : ∀ i : Fin 10, 48 ≤ (UInt8.ofNat (48 + i.val)).toNat ∧ (UInt8.ofNat (48 + i.val)).toNat ≤ 57 := by decide +kernel
  exact this ⟨i, h⟩
theorem dec_fwd (n : Nat) : Lib.decFrom 0 (Lib.decDigits n) = some n := by
  induction n using Nat.strongRecOn with
  | _ n ih =>
    by_cases h : n < 10
    · rw [Lib.decDigits_one h]
      rw [Lib.decFrom, dig_of h]
      simp [Lib.decFrom]
    · rw [Lib.decDigits, dif_neg h, dec_snoc _ 0 (n / 10) _ (n % 10) (ih (n / 10) (by omega)) (dig_of (by omega))]
      congr 1
      omega
theorem dd_bytes (n : Nat) : ∀ b ∈ Lib.decDigits n, 48 ≤ b.toNat ∧ b.toNat ≤ 57 := by
  induction n using Nat.strongRecOn with
  | _ n ih =>
    intro b hb
    by_cases h : n < 10
    · rw [Lib.decDigits_one h, List.mem_singleton] at hb
      rw [hb]
      exact dig_byte h
    · rw [Lib.decDigits, dif_neg h, List.mem_append, List.mem_singleton] at hb
      rcases hb with hb | hb
      · exact ih (n / 10) (by omega) b hb
      · rw [hb]
        exact dig_byte (by omega)
theorem dd_head (n : Nat) (h : 1 ≤ n) : ∀ a, (Lib.decDigits n)[0]? = some a → a ≠ 48 := by
  induction n using Nat.strongRecOn with
  | _ n ih =>
    intro a ha
    by_cases q : n < 10
    · rw [Lib.decDigits_one q] at ha
      have : ∀ i : Fin 10, 1 ≤ i.val → UInt8.ofNat (48 + i.val) ≠ 48 := by decide +kernel
      have := this ⟨n, q⟩ h
      rw [List.getElem?_cons_zero, Option.some.injEq] at ha
      rw [← ha]
      exact this
    · rw [Lib.decDigits, dif_neg q] at ha
      have hl : 0 < (Lib.decDigits (n / 10)).length := by rw [Lib.decDigits_length]; exact Lib.nDigits_pos _
      rw [List.getElem?_append_left hl] at ha
      exact ih (n / 10) (by omega) (by omega) a ha
theorem nd_le {k n : Nat} (h : n < 10 ^ (k + 1)) : Lib.nDigits n ≤ k + 1 := by
  induction k generalizing n with
  | zero => rw [Lib.nDigits_small (by simpa using h)]; omega
  | succ k ih =>
    by_cases q : n < 10
    · rw [Lib.nDigits_small q]; omega
    · rw [Lib.nDigits_big q]
      have := ih (n := n / 10) (by rw [Nat.pow_succ] at h; omega)
      omega
theorem digV_dd {n k : Nat} (h : n < 10 ^ (k + 1)) : digV (Lib.decDigits n) (k + 1) = ((n : Int), true) := by
  have hl := Lib.decDigits_length n
  have hp := Lib.nDigits_pos n
  have hm := nd_le h
  unfold digV
  rw [if_neg (fun q => by rw [q] at hl; simp at hl; omega), if_neg (by omega), if_neg, dec_fwd]
  rintro ⟨q1, q2⟩
  by_cases q : n = 0
  · subst q
    rw [hl, Lib.nDigits_small (by decide)] at q2
    omega
  · exact dd_head n (by omega) _ q1 rfl
theorem digV_itoa {c : Int} {k : Nat} (h0 : 0 ≤ c) (h1 : c < 10 ^ (k + 1)) : digV (Lib.itoa c) (k + 1) = (c, true) := by
  obtain ⟨n, rfl⟩ := Int.eq_ofNat_of_zero_le h0
  rw [Lib.itoa_nonneg]
  exact digV_dd (by
    have : ((n : Nat) : Int) < ((10 ^ (k + 1) : Nat) : Int) := by rw [Int.natCast_pow]; exact h1
    omega)
theorem itoa_bytes {c : Int} : ∀ b ∈ Lib.itoa c, b = 45 ∨ (48 ≤ b.toNat ∧ b.toNat ≤ 57) := by
  intro b hb
  unfold Lib.itoa at hb
  split at hb
  · rcases List.mem_cons.1 hb with q | q
    · exact .inl q
    · exact .inr (dd_bytes _ b q)
  · exact .inr (dd_bytes _ b hb)
theorem itoa_no {c : Int} {b : UInt8} (h : b.toNat < 45) : b ∉ Lib.itoa c := fun q => by
  rcases itoa_bytes b q with rfl | ⟨q1, q2⟩
  · exact absurd h (by decide)
  · omega
theorem ib_hit : ∀ (s r : List UInt8) (c : UInt8), c ∉ s → Lib.indexByte (s ++ c :: r) c = (s.length : Int)
  | [], r, c, _ => by simp [Lib.indexByte]
  | a :: s, r, c, h => by
    have h1 : ¬ a = c := fun q => h (by simp [q])
    have ih := ib_hit s r c fun q => h (List.mem_cons_of_mem _ q)
    rw [List.cons_append, Lib.indexByte, ih]
    have : (a == c) = false := by simpa using h1
    simp only [this, List.length_cons]
    simp
theorem ib_none : ∀ (s : List UInt8) (c : UInt8), c ∉ s → Lib.indexByte s c = -1
  | [], c, _ => by simp [Lib.indexByte]
  | a :: s, c, h => by
    have h1 : ¬ a = c := fun q => h (by simp [q])
    have ih := ib_none s c fun q => h (List.mem_cons_of_mem _ q)
    rw [Lib.indexByte, ih]
    have : (a == c) = false := by simpa using h1
    simp [this]
theorem cut_at {s r : List UInt8} {c : UInt8} (h : c ∉ s) : Lib.cut (s ++ c :: r) [c] = (s, r, true) := by
  rw [cut_hit (ib_hit s r c h)]
  simp
/-- The lines j, j + 1, .. (m of them), each with its end. -/
def joinL (L : Nat → List UInt8) : Nat → Nat → List UInt8
  | _, 0 => []
  | j, m + 1 => L j ++ 10 :: joinL L (j + 1) m
theorem joinL_snoc (L : Nat → List UInt8) : ∀ m j, joinL L j (m + 1) = joinL L j m ++ (L (j + m) ++ [10])
  | 0, j => by simp [joinL]
  | m + 1, j => by
    rw [joinL, joinL_snoc L m (j + 1), joinL]
    simp [show j + 1 + m = j + (m + 1) by omega]
theorem rdG_join {β : Type} {st : List UInt8 → β → β × Bool} {L : Nat → List UInt8} {B : Nat → β} : ∀ (m j f : Nat) (n : Int), (joinL L j m).length < f → (∀ i, j ≤ i → i < j + m → 10 ∉ L i ∧ st (L i) (B i) = (B (i + 1), true)) → rdG st f (joinL L j m) n (B j) = (B (j + m), 0)
  | 0, j, f, n, hf, h => by
    cases f with
    | zero => omega
    | succ f => simp [rdG, joinL]
  | m + 1, j, f, n, hf, h => by
    cases f with
    | zero => omega
    | succ f =>
      obtain ⟨h1, h2⟩ := h j (by omega) (by omega)
      have ih := rdG_join m (j + 1) f (n + 1) (by simp only [joinL, List.length_append, List.length_cons] at hf; omega) fun i hi hj => h i (by omega) (by omega)
      rw [joinL, rdG, if_neg (by simp), ib_hit _ _ _ h1, if_neg (by omega), Int.toNat_natCast, List.take_left, h2, if_pos rfl]
      have : (L j ++ 10 :: joinL L (j + 1) m).drop ((L j).length + 1) = joinL L (j + 1) m := by
        rw [← List.drop_drop, List.drop_left]
        rfl
      rw [this, ih, show j + 1 + m = j + (m + 1) by omega]
end Go.Proofs.P4

