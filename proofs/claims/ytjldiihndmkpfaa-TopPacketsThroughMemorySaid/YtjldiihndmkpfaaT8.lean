/- A packet's bytes kept in words: the first loop. -/
import Derived.Test.YtjldiihndmkpfaaT7
set_option linter.unusedVariables false
set_option linter.unusedSimpArgs false
set_option maxRecDepth 10000
set_option maxHeartbeats 8000000
namespace Go.Proofs.P3
open Go.Ex
/-- A bank in a cell of its own, with its two rows; older blocks are as they were. -/
structure T2 (h0 : Hp) (nx0 : Nat) (h : Hp) (nx : Nat) (c w : List Int) : Prop where
  le : nx0 < nx
  old : ∀ j, j < nx0 → h j = h0 j
  ex : ∃ v1 v2, h nx0 = some ⟨0, 0, [v1, v2], none⟩ ∧ Acc ic h nx v1 c ∧ Acc ic h nx v2 w ∧ (∀ j, ownOf v1 = some j → nx0 < j) ∧ (∀ j, ownOf v2 = some j → nx0 < j) ∧ ∀ j, ownOf v1 = some j → ownOf v2 ≠ some j
theorem accB {h : Hp} {nx : Nat} {v : V} {l : List UInt8} (a : Acc byteCd h nx v l) (hl : 0 < l.length) : ∃ id ver off cap, v = .sl id ver off l.length cap ∧ id < nx ∧ ∀ h' : Hp, h' id = h id → ∀ (k : Nat) x, l[k]? = some x → (∀ {kk : IntKind} {K : V → List Nat → Prop}, iaddrK h' (.sl id ver off l.length cap) (.int kk k) 1 K ⟨⟩ = K (.pt id ver (off + k)) [id]) ∧ ldA h' (.pt id ver (off + k)) none = some (.int .u8 x.toNat) := by
  rcases a with ⟨-, rfl⟩ | ⟨id, ver, off, cap, cells, h1, h2, h3, h4, h5⟩
  · simp at hl
  refine ⟨id, ver, off, cap, h1, h2, fun h' hh k x hk => ?_⟩
  rw [← hh] at h3
  have hlt := (List.getElem?_eq_some_iff.1 hk).1
  refine ⟨fun {kk K} => by rw [iaddr_sl h3 rfl hlt, Nat.mul_one], ?_⟩
  rw [ld_pt h3]
  rw [show byteCd.sz = 1 from rfl, Nat.mul_one] at h5
  have hfl : ∀ m : List UInt8, fl byteCd m = m.map fun b => V.int .u8 (b.toNat : Int) := fun m => by
    induction m with
    | nil => rfl
    | cons a r ih => rw [List.map_cons, ← ih]; rfl
  have := congrArg (fun z => z[k]?) h5
  simp only [List.getElem?_take, hlt, if_true, List.getElem?_drop, hfl, List.getElem?_map, hk, Option.map_some] at this
  exact this
structure WI (fs : List Int) (e : List UInt8) (v7 r5 : V) (h0 : Hp) (nx0 : Nat) (k : Nat) (t : St) : Prop where
  i1 : t.t 1 = rI fs
  i2 : t.t 2 = .pt 0 0 0
  i5 : t.t 5 = r5
  i7 : t.t 7 = v7
  i8 : t.t 8 = .pt nx0 0 0
  i9 : t.t 9 = .int .i64 ((2 * k : Nat) : Int)
  b : T2 h0 nx0 t.h t.nx (csE e fs k) (wsE e k)
theorem words_walk {fs : List Int} {e : List UInt8} {v7 r5 : V} {h0 : Hp} {nx0 K : Nat} (hK : e.length = 2 * K) (hK1 : 0 < K) (hK2 : K ≤ 2000) (hf : fs.length < 2 ^ 62) (ha : Acc byteCd h0 nx0 v7 e) {t0 : St} (hI : WI fs e v7 r5 h0 nx0 0 t0) :
    LP Try.prog l15_0 (fun ee t => ee = .exit 0 ∧ WI fs e v7 r5 h0 nx0 K t) t0 ⟨⟩ ⟨⟩ := by
  have e62 := Go.Ex.e62
  have e47 := Go.Ex.e47
  obtain ⟨id7, ver7, off7, cap7, hv7, hid7, hb7⟩ := accB ha (by omega)
  refine loop_left K (fun r t => ∃ k, k + r = K ∧ WI fs e v7 r5 h0 nx0 k t) ⟨0, by omega, hI⟩ (fun t hI => ?_) (fun r t hr hI => ?_)
  · obtain ⟨k, hk, hI⟩ := hI
    obtain rfl : k = K := hk
    have j9 := hI.i9
    have hn : ¬ ((2 * k : Nat) : Int) < (e.length : Int) := by omega
    have i7 := hI.i7
    rw [hv7] at i7
    generalize h2k : 2 * k = kk at *
    unfold l15_0
    simp -dsimp [j9, i7, hn]
    exact ⟨by simp -dsimp [hI.i1], by simp -dsimp [hI.i2], by simp -dsimp [hI.i5], by simp -dsimp [i7, hv7], by simp -dsimp [hI.i8], by simp -dsimp [j9, h2k], by simp -dsimp; exact hI.b⟩
  · obtain ⟨k, hk, i1, i2, i5, i7, i8, i9, ⟨le, old, v1, v2, hb, a1, a2, o1, o2, dd⟩⟩ := hI
    rw [hv7] at i7
    have g0 : e[2 * k]? = some (bAt e (2 * k)) := by unfold bAt; rw [List.getElem?_eq_getElem (by omega)]; rfl
    have g1 : e[2 * k + 1]? = some (bAt e (2 * k + 1)) := by unfold bAt; rw [List.getElem?_eq_getElem (by omega)]; rfl
    have x0 := hb7 t.h (old _ hid7) _ _ g0
    have x1 := hb7 t.h (old _ hid7) _ _ g1
    have hwr : (wrd e k) = (((bAt e (2 * k)).toNat * 256 + (bAt e (2 * k + 1)).toNat : Nat) : Int) := rfl
    have hwin := wrd_in e k
    have hS : wsE e (k + 1) = wsE e k ++ [wrd e k] := rfl
    have hSc : csE e fs (k + 1) = csE e fs k ++ [cod1 e fs k] := rfl
    have hcd := Coded_ok (wrd e k)
    rw [codE_codI hwin] at hcd
    have hlw := wsE_len e k
    have hlc := csE_len e fs k
    have hc1 : cod1 e fs k = if fs.length = 0 then codI (wrd e k) else xorI (codI (wrd e k)) (bitK fs k) := rfl
    have hci := codI_in (wrd e k)
    have hB := bitK_in fs k
    have hbt : bitK fs k = lAt fs (k % fs.length) % 22 + 1 := rfl
    have h0' := (bAt e (2 * k)).toNat_lt
    have h1' := (bAt e (2 * k + 1)).toNat_lt
    generalize bAt e (2 * k) = p0 at *
    generalize bAt e (2 * k + 1) = p1 at *
    generalize wrd e k = w at *
    generalize cod1 e fs k = cx at *
    generalize wsE e k = ws at *
    generalize csE e fs k = cs at *
    have hlt : ((2 * k : Nat) : Int) < (e.length : Int) := by omega
    have w1 : IntKind.i64.wrap (p0.toNat : Int) = (p0.toNat : Int) := w_i64 (by omega) (by omega)
    have w2 : IntKind.i64.wrap (p1.toNat : Int) = (p1.toNat : Int) := w_i64 (by omega) (by omega)
    have z1 : binA .shl (.int .i64 (p0.toNat : Int)) (.int .u64 8) = some (.int .i64 ((p0.toNat * 256 : Nat) : Int)) := A_shl (j := 8) (by decide) (by omega)
    have w3 : IntKind.i64.wrap (((p0.toNat * 256 : Nat) : Int) + (p1.toNat : Int)) = w := by rw [w_i64 (by omega) (by omega)]; omega
    have w4 : IntKind.i64.wrap (((2 * k : Nat) : Int) + 1) = ((2 * k + 1 : Nat) : Int) := by rw [w_i64 (by omega) (by omega)]; omega
    have w5 : IntKind.i64.wrap (((2 * k : Nat) : Int) + 2) = ((2 * (k + 1) : Nat) : Int) := by rw [w_i64 (by omega) (by omega)]; omega
    have w6 : ((2 * k : Nat) : Int).tdiv 2 = (k : Int) := by rw [Int.tdiv_eq_ediv_of_nonneg (by omega)]; omega
    have w7 : IntKind.i64.wrap (k : Int) = (k : Int) := w_i64 (by omega) (by omega)
    have x0a := fun {K} => @x0.1 .i64 K
    have x1a := fun {K} => @x1.1 .i64 K
    have x0b := x0.2
    have x1b := x1.2
    clear x0 x1 g0 g1 hb7
    generalize p0.toNat * 256 = p8 at *
    generalize h2k2 : 2 * (k + 1) = kk2 at *
    generalize h2k1 : 2 * k + 1 = kk1 at *
    generalize h2k : 2 * k = kk at *
    unfold l15_0
    simp -dsimp [-i_shl, i9, i7, hlt, x0a, x1a, x0b, x1b, w1, w2, z1, w3, w4]
    refine call_pure hcd (by simp) (by simp) ?_
    have n0 : ¬ t.nx = nx0 := by omega
    have n0' : ¬ nx0 = t.nx := by omega
    by_cases c0 : fs.length = 0
    case' pos =>
      rw [if_pos c0] at hc1
      have c0' : ¬ (0 : Int) < (fs.length : Int) := by omega
      have c0'' : fs = [] := List.length_eq_zero_iff.1 c0
      rw [← hc1]
      simp -dsimp [i1, c0', c0'', i8, hb, fillA, n0, n0']
    case' neg =>
      rw [if_neg c0] at hc1
      have c0' : (0 : Int) < (fs.length : Int) := by omega
      have c1' : ¬ (fs.length : Int) = 0 := by omega
      have c3' : 0 < fs.length := by omega
      have c2' : ¬ fs = [] := fun q => c0 (by rw [q]; rfl)
      have hm0 : k % fs.length < fs.length := Nat.mod_lt _ (by omega)
      have w8 : (k : Int).tmod (fs.length : Int) = ((k % fs.length : Nat) : Int) := by rw [Int.tmod_eq_emod_of_nonneg (by omega)]; omega
      have hgf := get_lAt hm0
      have hbl := Below1_ok (lAt fs (k % fs.length)) 22 (by decide) (by decide)
      have z2 := A_btI (k := .i64) hB.1 hB.2
      rw [show bitK fs k - 1 = lAt fs (k % fs.length) % 22 by omega] at z2
      have z3 := A_xorI hci hB.1 hB.2
      rw [← hc1] at z3
      generalize (bt (bitK fs k).toNat) = bb at *
      generalize k % fs.length = km at *
      generalize lAt fs km = x at *
      generalize x % 22 = xm at *
      generalize codI w = cw at *
      simp -dsimp [-i_shl, -i_xor, i1, c0', c1', c2', c3', i9, w6, w7, w8, i_ia hgf, i_ld hgf]
      refine call_pure hbl (by simp) rfl ?_
      simp -dsimp [-i_shl, -i_xor, z2, z3, i8, hb, fillA, n0, n0']
    all_goals
      refine push_accW (d := ic) (x := cx) a1 rfl rfl (by omega) (by omega) fun v1' h' nx' i b1 b2 b3 b4 b5 b6 => ?_
      have hb' : h' nx0 = some ⟨0, 0, [v1, v2], none⟩ := by rw [b3 nx0 (by omega) (fun e => by have := o1 nx0 e; omega), hb]
      have hi1 : nx0 < i := by
        rcases b5 with e | e
        · exact o1 i e
        · omega
      have hi2 : i < nx' := b1.own b6
      have a2' : Acc ic h' nx' v2 ws := a2.keep (by omega) fun j hj ho => b3 j hj (fun e => dd j e ho)
      have m1 : ¬ i = nx0 := by omega
      have m1' : ¬ nx0 = i := by omega
      have m2 : ¬ i = nx' := by omega
      have m2' : ¬ nx' = i := by omega
      have m3 : ¬ nx' = nx0 := by omega
      have m3' : ¬ nx0 = nx' := by omega
      have m4 : ¬ t.nx = nx' := by omega
      have m4' : ¬ nx' = t.nx := by omega
      simp -dsimp [i8, hb', fillA, n0, n0', m1, m1', m2, m2', m3, m3', m4, m4']
      refine push_accW (d := ic) (x := w) a2' rfl rfl (by omega) (by omega) fun v2' h2 nx2 ix2 c1 c2 c3 c4 c5 c6 => ?_
      have hb2 : h2 nx0 = some ⟨0, 0, [v1, v2], none⟩ := by rw [c3 nx0 (by omega) (fun e => by have := o2 nx0 e; omega), hb']
      obtain ⟨s1, s2⟩ := acc_st b1
      obtain ⟨s3, s4⟩ := acc_st c1
      simp -dsimp [-V.cells, -V.storable, i8, hb2, s1, s2, s3, s4, i9, w5]
      have own1 : ∀ j, ownOf v1' = some j → nx0 < j ∧ j < nx' := fun j hj => ⟨by
        rcases b4 j hj with e | e
        · exact o1 j e
        · omega, b1.own hj⟩
      have own2 : ∀ j, ownOf v2' = some j → nx0 < j := fun j hj => by
        rcases c4 j hj with e | e
        · exact o2 j e
        · omega
      have hd : ∀ j, ownOf v1' = some j → ownOf v2 ≠ some j := fun j hj e => by
        rcases b4 j hj with q | q
        · exact dd j q e
        · have := a2.own e; omega
      have hd' : ∀ j, ownOf v1' = some j → ownOf v2' ≠ some j := fun j hj e => by
        rcases c4 j e with q | q
        · exact hd j hj q
        · have := (own1 j hj).2; omega
      refine ⟨k + 1, by omega, by simp -dsimp [i1], by simp -dsimp [i2], by simp -dsimp [i5], by simp -dsimp [i7, hv7], by simp -dsimp [i8], by simp -dsimp [h2k2], ⟨by simp -dsimp; omega, fun j hj => ?_, v1', v2', ?_, ?_, ?_, fun j hj => (own1 j hj).1, own2, hd'⟩⟩
      · simp -dsimp
        rw [if_neg (by omega), if_neg (by omega), c3 j (by omega) (fun q => by have := o2 j q; omega), b3 j (by omega) (fun q => by have := o1 j q; omega), old j hj]
      · simp [upd]
      · rw [hSc]
        have := b1.keep (h' := h2) (nx' := nx2) (by omega) fun j hj ho => c3 j hj (hd j ho)
        exact this.keep (Nat.le_refl _) fun j hj ho => by
          have := (own1 j ho).1
          simp only [upd]
          rw [if_neg (by omega), if_neg (by omega)]
      · rw [hS]
        exact c1.keep (Nat.le_refl _) fun j hj ho => by
          have := own2 j ho
          simp only [upd]
          rw [if_neg (by omega), if_neg (by omega)]
end Go.Proofs.P3
