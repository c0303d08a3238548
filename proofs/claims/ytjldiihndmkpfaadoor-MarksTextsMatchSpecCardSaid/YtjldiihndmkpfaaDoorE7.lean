/- Numbers written behind bytes: strconv.AppendInt. -/
import Derived.Test.YtjldiihndmkpfaaDoorE6
import Derived.Sort.Row
set_option linter.unusedVariables false
set_option linter.unusedSimpArgs false
set_option maxRecDepth 10000
set_option maxHeartbeats 8000000
namespace Go.Proofs.P4
open Go.Ex Go.RowKit
def byteCd : Cd UInt8 := ⟨1, fun b => [.int .u8 b.toNat], fun _ => rfl, fun _ => rfl⟩
theorem fl_bytes : ∀ s : List UInt8, fl byteCd s = bytesV s
  | [] => rfl
  | b :: r => by
    have ih := fl_bytes r
    unfold fl at ih ⊢
    rw [List.flatMap_cons, ih]
    rfl
theorem small_ok (i : Nat) (hi : i < 100) : OkF Tryd.prog 108 [.int .i64 i] (.str (Lib.decDigits i), []) := by
  refine OkF.lib fun φ S w vs hG hv => ?_
  obtain ⟨x, rfl, hx⟩ := reps1 hv
  cases hx
  refine (Tryd.internal_strconv_small i hi w).mono fun e w' he => ?_
  obtain ⟨rfl, rfl⟩ := he
  exact ⟨_, rfl, Below.refl _ _, rep_str_mk _⟩
theorem numDigits_ok (u : Nat) (h1 : 1 ≤ u) (h2 : u < 18446744073709551616) : OkF Tryd.prog 109 [.int .u64 u] (.int .i64 (Lib.nDigits u), []) := by
  refine OkF.lib fun φ S w vs hG hv => ?_
  obtain ⟨x, rfl, hx⟩ := reps1 hv
  cases hx
  refine (Tryd.internal_strconv_numDigits u h1 h2 w (gPow hG)).mono fun e w' he => ?_
  obtain ⟨rfl, rfl⟩ := he
  exact ⟨_, rfl, Below.refl _ _, .int _ _⟩
abbrev encB : UInt8 → Value := fun b => .int .u8 (b.toNat : Int)
theorem put_at (o : Nat) (dk : Array UInt8) (arr : Array Value) (i : Nat) : (Sort.putCells encB o dk arr)[i]? = (arr[i]?).map fun x => if o ≤ i ∧ i < o + dk.size then encB dk[i - o]! else x := by
  simp only [Sort.putCells, Array.getElem?_mapIdx]
theorem put_size (o : Nat) (dk : Array UInt8) (arr : Array Value) : (Sort.putCells encB o dk arr).size = arr.size := by simp [Sort.putCells]
theorem fmt_ok {h : Hp} {nx id ver u : Nat} {cs : List V} {cap : Option Nat} (hb : h id = some ⟨ver, 1, cs, none⟩) (h1 : 1 ≤ u) (h2 : u < 18446744073709551616) (hl : Lib.nDigits u ≤ cs.length) (hz : ∀ i, i < Lib.nDigits u → cs[i]? = some (.int .u8 0)) :
    SOk Tryd.prog 110 [.sl id ver 0 (Lib.nDigits u) cap, .int .u64 u] h nx (.tup []) (upd h id (some ⟨ver, 1, bytesV (Lib.decDigits u) ++ cs.drop (Lib.nDigits u), none⟩)) nx := by
  intro w0 w φ S vs hfr hR hv
  obtain ⟨x, y, rfl, hx, hy⟩ := reps2 hv
  cases hy
  cases hx
  rename_i ad c hr
  obtain ⟨b1, q1, q2, q3⟩ := hr
  rw [hb] at q1
  injection q1 with q1
  subst q1
  obtain ⟨oo, rfl, hoo, hcap, hlc, -⟩ := q3 rfl
  have hn1 : 1 ≤ Lib.nDigits u := by
    unfold Lib.nDigits
    split <;> omega
  have hoo' := hoo (by omega)
  rw [Nat.add_zero] at hoo'
  subst hoo'
  obtain ⟨arr, el, fz, z1, z2, z3, z4⟩ := (hR.blk _ _ hb).at_ rfl
  simp only at z2 z4
  have hH : Sort.Holds encB w (φ id).1 (φ id).2 (Array.replicate (Lib.nDigits u) 0) := by
    intro j hj
    rw [Array.size_replicate] at hj
    refine ⟨?_, frozen_at z1 z3 (by omega)⟩
    rw [cell_at z1, Array.getElem?_eq_getElem (by omega)]
    obtain ⟨r1, r2⟩ := z4 j _ _ (hz j hj) (Array.getElem?_eq_getElem (by omega))
    generalize arr[(φ id).2 + j] = v at r1
    cases r1
    rw [getElem!_pos _ j (by simpa using hj)]
    simp [encB]
  have hd : u < 10 ^ (Array.replicate (Lib.nDigits u) (0 : UInt8)).size := by rw [Array.size_replicate]; exact Lib.lt_pow_nDigits u
  have hnd : Lib.nDigits u ≤ 20 := by have := Lib.numDigits_eq u h1 h2; split at this <;> omega
  have hc := Tryd.internal_strconv_formatBase10 (φ id).1 (φ id).2 c u (Array.replicate (Lib.nDigits u) 0) w hH hd h2 (by rw [Array.size_replicate]; omega)
  rw [Array.size_replicate] at hc
  refine hc.mono fun e w' he => ?_
  obtain ⟨rfl, n, v', dk, rfl, hF⟩ := he
  have hdl : (bytesV (Lib.decDigits u)).length = Lib.nDigits u := by rw [bytesV, List.length_map, Lib.decDigits_length]
  have hw' : ((Sort.putRow encB w (φ id).1 (φ id).2 dk).drewN n).heap[(φ id).1]? = some (.cells (Sort.putCells encB (φ id).2 dk arr) el fz) := by
    show (Sort.putRow encB w (φ id).1 (φ id).2 dk).heap[(φ id).1]? = _
    simp [Sort.putRow, Sort.mapBlock, Array.getElem?_modify, z1, Sort.onCells]
  have hw := hR.write (w' := (Sort.putRow encB w (φ id).1 (φ id).2 dk).drewN n) (b' := ⟨ver, 1, bytesV (Lib.decDigits u) ++ cs.drop (Lib.nDigits u), none⟩) hb (Nat.le_refl _) (fun _ => rfl) rfl
    (fun k hk => by
      show (Sort.putRow encB w (φ id).1 (φ id).2 dk).heap[k]? = _
      simp only [Sort.putRow, Sort.mapBlock, Array.getElem?_modify]
      rw [if_neg (Ne.symm hk)]) rfl rfl rfl (by show (Sort.putRow encB w (φ id).1 (φ id).2 dk).heap.size = _; simp) z1 hw' (put_size _ _ _) z3 (by rw [List.length_append, hdl, List.length_drop]; omega)
    (fun i c v hc hv => by
      rw [put_at] at hv
      rw [Option.map_eq_some_iff] at hv
      obtain ⟨a, ha, hv⟩ := hv
      have hsz := hF.size
      by_cases hi : i < Lib.nDigits u
      · rw [if_pos ⟨by omega, by omega⟩] at hv
        rw [List.getElem?_append_left (by omega)] at hc
        simp only [bytesV, List.getElem?_map, Option.map_eq_some_iff] at hc
        obtain ⟨b, hb', rfl⟩ := hc
        have hlt : i < (Lib.decDigits u).length := by rw [Lib.decDigits_length]; exact hi
        have e := Lib.row_is_numeral hF i hlt
        rw [List.getElem?_eq_getElem hlt] at hb'
        injection hb' with hb'
        rw [show (φ id).2 + i - (φ id).2 = i by omega, ← e, hb'] at hv
        subst hv
        exact ⟨.int _ _, rfl⟩
      · rw [if_neg (by omega)] at hv
        subst hv
        rw [List.getElem?_append_right (by omega), hdl, List.getElem?_drop, show Lib.nDigits u + (i - Lib.nDigits u) = i by omega] at hc
        exact z4 i c a hc ha)
  exact ⟨_, φ, S, rfl, hw.1, hw.2, fun _ hs _ => hs, fun j hj => by simp only [upd]; split; (rename_i e; subst e; rw [hfr j hj] at hb; cases hb); exact hfr j hj, .tup _ _ rfl fun i c v hc => by simp at hc⟩
end Go.Proofs.P4

