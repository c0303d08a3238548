/- Dates are read: our side; the numbers as they grow. -/
import Derived.Test.YtjldiihndmkpfaaDoorH11
set_option linter.unusedVariables false
set_option linter.unusedSimpArgs false
set_option maxRecDepth 10000
set_option maxHeartbeats 8000000
namespace Go.Proofs.P4
open Go.Ex
def gi (i : Nat) : Nat := ((form.take i).filter fun c => c != 48).length
def stt (j : Nat) : Nat := [0, 5, 8, 11, 14, 17, 20].getD j 0
def ln (j : Nat) : Nat := [4, 2, 2, 2, 2, 2, 3].getD j 0
theorem grp_dig : ∀ i, i < 23 → form[i]? = some 48 → gi (i + 1) = gi i ∧ gi i < 7 ∧ stt (gi i) ≤ i ∧ i - stt (gi i) < ln (gi i) ∧ ln (gi i) ≤ 4 ∧ (∀ j, j < gi i → ln j ≤ i - stt j) ∧ ∀ t, t < i - stt (gi i) → form[stt (gi i) + t]? = some 48 := by decide +kernel
theorem grp_sep : ∀ i, i < 23 → form[i]? ≠ some 48 → gi (i + 1) = gi i + 1 ∧ gi i < 7 ∧ stt (gi i + 1) = i + 1 ∧ ∀ j, j < gi i + 1 → ln j ≤ i - stt j := by decide +kernel
theorem seg_isDk {s : List UInt8} {i n k : Nat} (h : ∀ (i : Nat) f c, i < k → form[i]? = some f → s[i]? = some c → okc f c) (hi : ∀ j, j < n → form[i + j]? = some 48) (hk : i + n ≤ k) : ∀ b ∈ seg s i n, isD b := fun b hb => by
  obtain ⟨j, hj⟩ := List.getElem?_of_mem hb
  unfold seg at hj
  rw [List.getElem?_take] at hj
  split at hj
  · rename_i q
    rw [List.getElem?_drop] at hj
    have := h (i + j) 48 b (by omega) (hi j q) hj
    unfold okc at this
    rwa [if_pos rfl] at this
  · cases hj
/-- The numbers read so far. -/
structure Nums (s : List UInt8) (k : Nat) (l : List Int) : Prop where
  len : l.length = gi k + 1
  at_ : ∀ j, j < gi k + 1 → l[j]? = some ((vl (seg s (stt j) (min (ln j) (k - stt j))) : Nat) : Int)
theorem Nums.zero (s : List UInt8) : Nums s 0 [0] := ⟨rfl, fun j hj => by
  have : j = 0 := by have : gi 0 = 0 := rfl; omega
  subst this
  simp [seg, vl]⟩
theorem Nums.dig {s : List UInt8} {k : Nat} {l : List Int} {b : UInt8} (h : Nums s k l) (hk : k < 23) (hf : form[k]? = some 48) (hb : s[k]? = some b) :
    Nums s (k + 1) (l.set (gi k) (((vl (seg s (stt (gi k)) (k - stt (gi k))) * 10 + (b.toNat - 48) : Nat) : Int))) ∧ l[gi k]? = some ((vl (seg s (stt (gi k)) (k - stt (gi k))) : Nat) : Int) := by
  obtain ⟨g1, g2, g3, g4, g5, g6, g7⟩ := grp_dig k hk hf
  have hlast := h.at_ (gi k) (by omega)
  rw [Nat.min_eq_right (by omega)] at hlast
  refine ⟨⟨by rw [List.length_set, h.len, g1], fun j hj => ?_⟩, hlast⟩
  rw [g1] at hj
  rw [List.getElem?_set]
  by_cases q : gi k = j
  · subst q
    rw [if_pos rfl, if_pos (by rw [h.len]; omega), Nat.min_eq_right (by omega), show k + 1 - stt (gi k) = k - stt (gi k) + 1 by omega, seg_snoc (b := b) (by rw [show stt (gi k) + (k - stt (gi k)) = k by omega]; exact hb), vl_snoc]
  · rw [if_neg q, h.at_ j hj]
    have := g6 j (by omega)
    rw [Nat.min_eq_left (by omega), Nat.min_eq_left (by omega)]
theorem Nums.sep {s : List UInt8} {k : Nat} {l : List Int} (h : Nums s k l) (hk : k < 23) (hf : form[k]? ≠ some 48) : Nums s (k + 1) (l ++ [0]) := by
  obtain ⟨g1, g2, g3, g4⟩ := grp_sep k hk hf
  refine ⟨by rw [List.length_append, h.len, g1]; rfl, fun j hj => ?_⟩
  rw [g1] at hj
  by_cases q : j < gi k + 1
  · rw [List.getElem?_append_left (by rw [h.len]; exact q), h.at_ j q]
    have := g4 j q
    rw [Nat.min_eq_left (by omega), Nat.min_eq_left (by omega)]
  · have : j = gi k + 1 := by omega
    subst this
    rw [List.getElem?_append_right (by rw [h.len]; omega), h.len, Nat.sub_self, g3]
    simp [seg, vl]
theorem Nums.done {s : List UInt8} {l : List Int} (h : Nums s 23 l) : l = [(vl (seg s 0 4) : Int), (vl (seg s 5 2) : Int), (vl (seg s 8 2) : Int), (vl (seg s 11 2) : Int), (vl (seg s 14 2) : Int), (vl (seg s 17 2) : Int), (vl (seg s 20 3) : Int)] := by
  have hg : gi 23 = 6 := by decide +kernel
  have hl := h.len
  have ha := h.at_
  rw [hg] at hl ha
  refine List.ext_getElem? fun j => ?_
  by_cases q : j < 7
  · rw [ha j q]
    have : j = 0 ∨ j = 1 ∨ j = 2 ∨ j = 3 ∨ j = 4 ∨ j = 5 ∨ j = 6 := by omega
    rcases this with rfl | rfl | rfl | rfl | rfl | rfl | rfl <;> rfl
  · rw [List.getElem?_eq_none (by omega), List.getElem?_eq_none (by simp; omega)]
/-- A row of one's own, its last element written anew. -/
theorem acc_cells {h : Hp} {nx : Nat} {v : V} {l : List Int} (a : Acc ic h nx v l) (hl : 0 < l.length) : ∃ id ver off cap cells, v = .sl id ver off l.length cap ∧ id < nx ∧ h id = some ⟨ver, 1, cells, none⟩ ∧ off + l.length ≤ cells.length ∧ (∀ k x, l[k]? = some x → cells[off + k]? = some (.int .i64 x)) ∧
    ∀ k x h' nx', k < l.length → nx ≤ nx' → h' id = some ⟨ver, 1, cells.set (off + k) (.int .i64 x), none⟩ → Acc ic h' nx' (.sl id ver off l.length cap) (l.set k x) := by
  rcases a with ⟨-, rfl⟩ | ⟨id, ver, off, cap, cells, h1, h2, h3, h4, h5⟩
  · simp at hl
  have hs : ic.sz = 1 := rfl
  rw [hs] at h3 h4 h5
  rw [Nat.mul_one] at h4 h5
  have hfl : ∀ m : List Int, fl ic m = m.map (V.int .i64) := fun m => by
    induction m with
    | nil => rfl
    | cons a r ih => rw [List.map_cons, ← ih]; rfl
  refine ⟨id, ver, off, cap, cells, h1, h2, h3, h4, fun k x hk => ?_, fun k x h' nx' hk hn hb => ?_⟩
  · have hlt := (List.getElem?_eq_some_iff.1 hk).1
    have := congrArg (fun z => z[k]?) h5
    simp only [List.getElem?_take, hlt, if_true, List.getElem?_drop, hfl, List.getElem?_map, hk, Option.map_some] at this
    exact this
  · refine .inr ⟨id, ver, off, cap, cells.set (off + k) (.int .i64 x), by rw [List.length_set], by omega, hb, ?_, ?_⟩
    · rw [List.length_set, List.length_set, hs]; omega
    · rw [List.length_set, hs, Nat.mul_one, List.drop_set, if_neg (by omega), Nat.add_sub_cancel_left, List.take_set, h5, hfl, hfl, List.map_set]
end Go.Proofs.P4

