/- Packets are read. -/
import Derived.Test.YtjldiihndmkpfaaT3
set_option linter.unusedVariables false
set_option linter.unusedSimpArgs false
set_option maxRecDepth 10000
set_option maxHeartbeats 8000000
namespace Go.Proofs.P3
open Go.Ex
theorem cloneB_ok (l : List UInt8) (hl : l.length < 2 ^ 40) (hne : l ≠ []) : OkF Try.prog 57 [rB l] (.sl 0 0 0 l.length none, [⟨0, 1, fl byteCd l, none⟩]) :=
  clone_ok (d := byteCd) (bytes := 1) (zero := [.int .u8 0]) hm h57 rfl l (by omega) (by omega) hne
theorem equalB_ok (l : List UInt8) (hl : l.length < 2 ^ 40) : OkF Try.prog 111 [rB l, rB l] (.bool true, []) := by
  refine OkF.W0 hm h111 (of_decide_eq_true rfl) ?_
  unfold c111
  simp -dsimp
  refine for_lt l.length (fun k s => s.t 0 = rB l ∧ s.t 1 = rB l ∧ s.h = none0) rfl (by omega) (by simp -dsimp) (by simp -dsimp) (by simp -dsimp) (fun k s hk hI hi hn => ?_) (fun s hI hi hn => ?_)
  · obtain ⟨i0, i1, ih⟩ := hI
    have hg := bt_at hk
    generalize (l[k]?).getD 0 = a at hg
    unfold k111_0
    simp -dsimp [i0, i1, hi, hn, b_ia hg, b_ld hg]
    exact ih
  · simp -dsimp
theorem slc_b {l : List UInt8} {n : Nat} {kk : IntKind} (hn : n ≤ l.length) : slcA false (rB l) none (some (.int kk n)) 1 = some (rB (l.take n)) := slc_ro_hi (d := byteCd) rfl hn
theorem slc_l {l : List UInt8} {n : Nat} {kk : IntKind} (hn : n ≤ l.length) : slcA false (rB l) (some (.int kk n)) none 1 = some (rB (l.drop n)) := slc_ro_lo (d := byteCd) rfl hn
theorem slc_2 {l : List UInt8} {n m : Nat} {kk : IntKind} (h1 : n ≤ m) (h2 : m ≤ l.length) : slcA false (rB l) (some (.int kk n)) (some (.int kk m)) 1 = some (rB ((l.drop n).take (m - n))) := by
  have hd : fl byteCd (l.drop n) = (fl byteCd l).drop n := by
    have := fl_dropN (d := byteCd) (l := l) (n := n) (by omega)
    rwa [show byteCd.sz = 1 from rfl, Nat.mul_one] at this
  have ht : fl byteCd ((l.drop n).take (m - n)) = (fl byteCd (l.drop n)).take (m - n) := by
    have := fl_takeN (d := byteCd) (l := l.drop n) (n := m - n) (by rw [List.length_drop]; omega)
    rwa [show byteCd.sz = 1 from rfl, Nat.mul_one] at this
  have hf := flb_len l
  have hl : ((l.drop n).take (m - n)).length = m - n := by rw [List.length_take, List.length_drop]; omega
  simp only [slcA, loHi]
  rw [if_pos (by omega)]
  simp only [Option.bind_some, Option.map_some, Int.toNat_natCast]
  simp only [Nat.mul_one]
  rw [if_pos hf]
  show some (V.ro (m - n) _) = some (V.ro ((l.drop n).take (m - n)).length (fl byteCd ((l.drop n).take (m - n))))
  rw [hl, ht, hd]
theorem right_ok (l : List UInt8) (hl : l.length ≤ 100000) : OkF Try.prog 110 [rB (l ++ twoB (sumN l))] (.bool true, []) := by
  refine OkF.W0 hm h110 (of_decide_eq_true rfl) ?_
  unfold c110
  have hlt := sumN_lt l
  have hs := Sum_ok l (by omega)
  have hnu := number_ok (a := UInt8.ofNat (sumN l / 256)) (b := UInt8.ofNat (sumN l % 256)) (r := [])
  rw [num_two hlt] at hnu
  have hlen : (l ++ twoB (sumN l)).length = l.length + 2 := by rw [List.length_append]; rfl
  have s1 : slcA false (rB (l ++ twoB (sumN l))) none (some (.int .i64 (l.length : Nat))) 1 = some (rB l) := by
    rw [slc_b (by omega), List.take_left]
  have s2 : slcA false (rB (l ++ twoB (sumN l))) (some (.int .i64 (l.length : Nat))) none 1 = some (rB [UInt8.ofNat (sumN l / 256), UInt8.ofNat (sumN l % 256)]) := by
    rw [slc_l (by omega), List.drop_left]
    rfl
  have w1 : IntKind.i64.wrap ((l.length : Int) + 2 - 2) = (l.length : Int) := by rw [w_i64 (by omega) (by omega)]; omega
  have w2 : IntKind.i64.wrap (l.length : Int) = (l.length : Int) := by rw [w_i64 (by omega) (by omega)]
  generalize hR : l ++ twoB (sumN l) = R at *
  generalize [UInt8.ofNat (sumN l / 256), UInt8.ofNat (sumN l % 256)] = tl at *
  generalize sumN l = x at *
  simp -dsimp [hlen, w1, w2, slcK_ro s1, slcK_ro s2]
  refine call_int hs ?_
  simp -dsimp [slcK_ro s2]
  refine call_int hnu ?_
  simp -dsimp
theorem bits_n0 : ∀ s : Fin 2048, ∀ c : Bool, (BitVec.ofNat 64 (s.val + if c then 4096 else 0) &&& ~~~(6143 : BitVec 64)).toNat = 0 ∧ (s.val + if c then 4096 else 0) &&& 2047 = s.val ∧ (s.val + if c then 4096 else 0) &&& 4096 = if c then 4096 else 0 := by decide +kernel
theorem A_n0 {s : Nat} (hs : s < 2048) (c : Bool) : binA .andNot (.int .i64 ((s + if c then 4096 else 0 : Nat) : Int)) (.int .i64 6143) = some (.int .i64 0) ∧ binA .and (.int .i64 ((s + if c then 4096 else 0 : Nat) : Int)) (.int .i64 2047) = some (.int .i64 (s : Nat)) ∧ binA .and (.int .i64 ((s + if c then 4096 else 0 : Nat) : Int)) (.int .i64 4096) = some (.int .i64 (if c then 4096 else 0)) := by
  obtain ⟨h1, h2, h3⟩ := bits_n0 ⟨s, hs⟩ c
  simp only at h1 h2 h3
  have hl : (s + if c then 4096 else 0) < 2 ^ 62 := by split <;> omega
  refine ⟨?_, ?_, ?_⟩
  · rw [i_andNot]
    have e2 : BitVec.ofInt 64 6143 = (6143 : BitVec 64) := by decide
    have key : (BitVec.ofInt 64 ((s + if c then 4096 else 0 : Nat) : Int) &&& ~~~BitVec.ofInt 64 6143).toNat = 0 := by
      rw [BitVec.ofInt_natCast, e2]
      exact h1
    exact congrArg (fun x : Nat => some (V.int .i64 (IntKind.i64.wrap (x : Int)))) key
  · have := A_and (a := s + if c then 4096 else 0) (b := 2047) hl (by decide)
    rw [h2] at this
    exact this
  · have := A_and (a := s + if c then 4096 else 0) (b := 4096) hl (by decide)
    rw [h3] at this
    cases c <;> exact this
/-- A packet as it is read: its body of its own memory. -/
def rdR (p : Pkt) : V × List LB := (.tup [.agg [.int .i64 p.1, .bool p.2.1, .int .i64 p.2.2.1, .int .i64 p.2.2.2.1, .sl 0 0 0 p.2.2.2.2.length none], .int .i64 (rawB p).length, .int .i64 0], [⟨0, 1, fl byteCd p.2.2.2.2, none⟩])
theorem Read_ok {p : Pkt} (hp : PkOk p) (pad : List UInt8) (hpad : pad.length ≤ 1) : OkF Try.prog 61 [rB (rawB p ++ pad)] (rdR p) := by
  unfold rdR
  refine OkF.ofG hm h61 (of_decide_eq_true rfl) ?_ (fun q hq => by simp at hq; subst hq; exact ⟨fl_pure _, rfl⟩)
  unfold c61
  have hR := right_ok (hdB p)
  obtain ⟨h1, h2, h3, h4⟩ := hp
  have hn0 : n0 p < 65536 := by unfold n0; split <;> omega
  have hn1 : n1 p < 65536 := by unfold n1; omega
  have f0 := number_ok (a := UInt8.ofNat (n0 p / 256)) (b := UInt8.ofNat (n0 p % 256)) (r := twoB (n1 p) ++ (twoB (p.2.2.2.2.length + 1) ++ (p.2.2.2.2 ++ (twoB (sumN (hdB p)) ++ pad))))
  have f1 := number_ok (a := UInt8.ofNat (n1 p / 256)) (b := UInt8.ofNat (n1 p % 256)) (r := twoB (p.2.2.2.2.length + 1) ++ (p.2.2.2.2 ++ (twoB (sumN (hdB p)) ++ pad)))
  have f2 := number_ok (a := UInt8.ofNat ((p.2.2.2.2.length + 1) / 256)) (b := UInt8.ofNat ((p.2.2.2.2.length + 1) % 256)) (r := p.2.2.2.2 ++ (twoB (sumN (hdB p)) ++ pad))
  rw [num_two hn0] at f0
  rw [num_two hn1] at f1
  rw [num_two (by omega)] at f2
  have eR : rawB p ++ pad = UInt8.ofNat (n0 p / 256) :: UInt8.ofNat (n0 p % 256) :: (twoB (n1 p) ++ (twoB (p.2.2.2.2.length + 1) ++ (p.2.2.2.2 ++ (twoB (sumN (hdB p)) ++ pad)))) := by
    unfold rawB
    rw [show hdB p = twoB (n0 p) ++ (twoB (n1 p) ++ (twoB (p.2.2.2.2.length + 1) ++ p.2.2.2.2)) by unfold hdB; simp only [List.append_assoc]]
    simp only [List.append_assoc]
    rfl
  have e2 : (rawB p ++ pad).drop 2 = UInt8.ofNat (n1 p / 256) :: UInt8.ofNat (n1 p % 256) :: (twoB (p.2.2.2.2.length + 1) ++ (p.2.2.2.2 ++ (twoB (sumN (hdB p)) ++ pad))) := by rw [eR]; rfl
  have e4 : (rawB p ++ pad).drop 4 = UInt8.ofNat ((p.2.2.2.2.length + 1) / 256) :: UInt8.ofNat ((p.2.2.2.2.length + 1) % 256) :: (p.2.2.2.2 ++ (twoB (sumN (hdB p)) ++ pad)) := by rw [eR]; rfl
  have e6 : (rawB p ++ pad).drop 6 = p.2.2.2.2 ++ (twoB (sumN (hdB p)) ++ pad) := by rw [eR]; rfl
  have hlh : (hdB p).length = p.2.2.2.2.length + 6 := by unfold hdB; simp only [List.length_append]; show 2 + 2 + 2 + _ = _; omega
  have hlr : (rawB p).length = p.2.2.2.2.length + 8 := by unfold rawB; rw [List.length_append, hlh]; rfl
  have hlR : (rawB p ++ pad).length = p.2.2.2.2.length + 8 + pad.length := by rw [List.length_append, hlr]
  rw [← eR] at f0
  rw [← e2] at f1
  rw [← e4] at f2
  have hR2 := hR (by omega)
  clear hR
  rw [show hdB p ++ twoB (sumN (hdB p)) = rawB p from rfl] at hR2
  have s2 : slcA false (rB (rawB p ++ pad)) (some (.int .i64 2)) none 1 = some (rB ((rawB p ++ pad).drop 2)) := slc_l (n := 2) (by omega)
  have s4 : slcA false (rB (rawB p ++ pad)) (some (.int .i64 4)) none 1 = some (rB ((rawB p ++ pad).drop 4)) := slc_l (n := 4) (by omega)
  have sr : slcA false (rB (rawB p ++ pad)) none (some (.int .i64 ((rawB p).length : Nat))) 1 = some (rB (rawB p)) := by rw [slc_b (by omega), List.take_left]
  have sb : slcA false (rB (rawB p ++ pad)) (some (.int .i64 6)) (some (.int .i64 ((p.2.2.2.2.length + 6 : Nat) : Int))) 1 = some (rB p.2.2.2.2) := by
    have := slc_2 (l := rawB p ++ pad) (n := 6) (m := p.2.2.2.2.length + 6) (kk := .i64) (by omega) (by omega)
    rw [e6, Nat.add_sub_cancel, List.take_left] at this
    exact this
  have hcl := cloneB_ok p.2.2.2.2 (by omega) (fun e => by rw [e] at h4; simp at h4)
  clear e2 e4 e6 eR
  generalize (rawB p ++ pad).drop 2 = R2 at *
  generalize (rawB p ++ pad).drop 4 = R4 at *
  generalize hRR : rawB p ++ pad = R at *
  obtain ⟨a1, a2, a3⟩ := A_n0 (s := p.1.toNat) (by omega) p.2.1
  rw [show (p.1.toNat + if p.2.1 then 4096 else 0) = n0 p from rfl] at a1 a2 a3
  rw [Int.toNat_of_nonneg h1.1] at a2
  have d1 : (n1 p : Int) = p.2.2.1 * 16384 + p.2.2.2.1 := by unfold n1; omega
  generalize n0 p = x0 at *
  generalize n1 p = x1 at *
  rw [hlr] at *
  generalize rawB p = rw at *
  obtain ⟨s, c, pt, n, b⟩ := p
  simp only at *
  have v1 : (x1 : Int).tdiv 16384 = pt := by rw [Int.tdiv_eq_ediv_of_nonneg (by omega)]; omega
  have v2 : (x1 : Int).tmod 16384 = n := by rw [Int.tmod_eq_emod_of_nonneg (by omega)]; omega
  have w1 : IntKind.i64.wrap (((b.length + 1 : Nat) : Int) - 1) = (b.length : Int) := by rw [w_i64 (by omega) (by omega)]; omega
  have w2 : IntKind.i64.wrap (6 + (b.length : Int)) = 6 + (b.length : Int) := w_i64 (by omega) (by omega)
  have w3 : IntKind.i64.wrap (6 + (b.length : Int) + 2) = ((b.length + 8 : Nat) : Int) := by rw [w_i64 (by omega) (by omega)]; omega
  have w4 : IntKind.i64.wrap (((b.length + 8 : Nat) : Int) - 2) = ((b.length + 6 : Nat) : Int) := by rw [w_i64 (by omega) (by omega)]; omega
  have hin : inB (b.length : Int) 1 1000 = true := by simp [inB]; omega
  have l6 : ¬ (R.length : Int) < 6 := by omega
  have ln : ¬ (R.length : Int) < ((b.length + 8 : Nat) : Int) := by omega
  clear hlR hlh hlr
  generalize b.length + 1 = L1 at *
  generalize b.length + 8 = L8 at *
  generalize b.length + 6 = L6 at *
  simp -dsimp [-i_and, -i_andNot, l6]
  refine call_int f0 ?_
  simp -dsimp [slcK_ro s2]
  refine call_int f1 ?_
  simp -dsimp [slcK_ro s4]
  refine call_int f2 ?_
  simp -dsimp [-i_and, -i_andNot, w1, a1]
  refine call_bool (In_ok _ _ _) ?_
  simp -dsimp [hin, w2, w3, ln, slcK_ro sr]
  refine call_bool hR2 ?_
  simp -dsimp [-i_and, a2, a3, v1, v2, w4, slcK_ro sb]
  refine call_own hcl (okRes_of (by simp)) ?_
  have w5 : IntKind.i64.wrap pt = pt := w_i64 (by omega) (by omega)
  cases c <;> simp -dsimp [addB, callRd_one, callWr_one, fillS, w5]
  all_goals
    refine ⟨[1], by decide, ?_, ?_⟩
    · simp [expV, exp1, expC, ixOf, w5]
    · simp [expB, roL]
theorem SameP_ok (p : Pkt) (hp : p.2.2.2.2.length < 2 ^ 40) : OkF Try.prog 62 [pkV p, pkV p] (.bool true, []) := by
  refine OkF.W0 hm h62 (of_decide_eq_true rfl) ?_
  unfold c62
  obtain ⟨s, c, pt, n, b⟩ := p
  have he := equalB_ok b hp
  simp -dsimp
  refine call_bool he ?_
  simp -dsimp
end Go.Proofs.P3
