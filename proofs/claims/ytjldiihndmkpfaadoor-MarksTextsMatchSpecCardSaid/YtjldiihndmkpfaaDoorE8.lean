/- strconv.AppendInt, walked. -/
import Derived.Test.YtjldiihndmkpfaaDoorE7
set_option linter.unusedVariables false
set_option linter.unusedSimpArgs false
set_option maxRecDepth 10000
set_option maxHeartbeats 8000000
namespace Go.Proofs.P4
open Go.Ex
def AppQ (h : Hp) (nx : Nat) (v : V) (l l' : List UInt8) : V → Hp → Nat → Prop := fun v' h' nx' => Acc byteCd h' nx' v' (l ++ l') ∧ nx ≤ nx' ∧ (∀ j, j < nx → ownOf v ≠ some j → h' j = h j) ∧ (∀ j, ownOf v' = some j → ownOf v = some j ∨ nx ≤ j)
theorem sla_pt {h : Hp} {id ver nd : Nat} {cs : List V} {kk : IntKind} {F : V → List Nat → Prop} (hb : h id = some ⟨ver, 1, cs, none⟩) (hl : cs.length = 24) (hn : nd ≤ 24) : slaK h (.pt id ver 0) none (some (.int kk nd)) 24 1 F ⟨⟩ = F (.sl id ver 0 nd (some 24)) [id] := by
  simp only [slaK, loHi, Int.natCast_nonneg, true_and]
  rw [if_pos (by omega)]
  simp only [Int.toNat_natCast, hb]
  unfold guardK
  refine propext ⟨fun q => q.2, fun q => ⟨⟨trivial, trivial, trivial, by omega⟩, q⟩⟩
abbrev zs24 : List V := [.int .u8 0, .int .u8 0, .int .u8 0, .int .u8 0, .int .u8 0, .int .u8 0, .int .u8 0, .int .u8 0, .int .u8 0, .int .u8 0, .int .u8 0, .int .u8 0, .int .u8 0, .int .u8 0, .int .u8 0, .int .u8 0, .int .u8 0, .int .u8 0, .int .u8 0, .int .u8 0, .int .u8 0, .int .u8 0, .int .u8 0, .int .u8 0]
theorem zs_at : ∀ i, i < 24 → zs24[i]? = some (.int .u8 0) := fun i hi => by
  have : zs24 = List.replicate 24 (.int .u8 0) := rfl
  rw [this, List.getElem?_replicate, if_pos hi]
theorem AppendUint_ex {h : Hp} {nx : Nat} {v : V} {l : List UInt8} {u : Nat} (ha : Acc byteCd h nx v l) (hl : l.length ≤ 1000000) (hu : u < 18446744073709551616) :
    SEx Tryd.prog 85 [v, .int .u64 u, .int .i64 10] h nx (AppQ h nx v l (Lib.decDigits u)) := by
  refine SEx.of hm h85 (of_decide_eq_true rfl) ?_
  unfold c85
  have e62 := Go.Ex.e62
  have e47 := Go.Ex.e47
  by_cases c : u < 100
  · have c' : (u : Int) < 100 := by omega
    have w1 : IntKind.i64.wrap (u : Int) = (u : Int) := w_i64 (by omega) (by omega)
    have hlen : (Lib.decDigits u).length ≤ 2 := by
      rw [Lib.decDigits_length]
      by_cases h10 : u < 10
      · rw [Lib.nDigits_small h10]; omega
      · rw [Lib.nDigits_big h10, Lib.nDigits_small (show u / 10 < 10 by omega)]; omega
    simp -dsimp [c, c', w1]
    refine call_pure (small_ok u c) (by simp) rfl ?_
    simp -dsimp
    refine app_acc ha (by rw [fl_bytes]) rfl (by omega) (by omega) fun v' h' nx' b1 b2 b3 b4 => ?_
    simp -dsimp
    exact ⟨b1, b2, b3, b4⟩
  · have c' : ¬ (u : Int) < 100 := by omega
    have hn := numDigits_ok u (by omega) hu
    have hnd : Lib.nDigits u ≤ 20 := by have := Lib.numDigits_eq u (by omega) hu; split at this <;> omega
    have hdl := Lib.decDigits_length u
    simp -dsimp [c, c']
    refine call_pure hn (by simp) rfl ?_
    have hZ : ∀ g : Hp, (upd g nx (some ⟨0, 1, zs24, none⟩)) nx = some ⟨0, 1, zs24, none⟩ := fun g => by simp
    have hs1 : ∀ F : V → List Nat → Prop, slaK (upd h nx (some ⟨0, 1, zs24, none⟩)) (.pt nx 0 0) none (some (.int .i64 (Lib.nDigits u : Int))) 24 1 F ⟨⟩ = F (.sl nx 0 0 (Lib.nDigits u) (some 24)) [nx] := fun F => sla_pt (hZ h) rfl (by omega)
    have hfm := fmt_ok (nx := nx + 1) (cap := some 24) (hZ h) (by omega) hu (by show _ ≤ 24; omega) (fun i hi => zs_at i (by omega))
    have hbl : (bytesV (Lib.decDigits u)).length = Lib.nDigits u := by rw [bytesV, List.length_map, hdl]
    generalize hB : bytesV (Lib.decDigits u) ++ zs24.drop (Lib.nDigits u) = B at *
    have hBl : B.length = 24 := by rw [← hB, List.length_append, hbl, List.length_drop]; show Lib.nDigits u + (24 - Lib.nDigits u) = 24; omega
    have hB2 : (upd (upd h nx (some ⟨0, 1, zs24, none⟩)) nx (some ⟨0, 1, B, none⟩)) nx = some ⟨0, 1, B, none⟩ := by simp
    have hs2 : ∀ F : V → List Nat → Prop, slaK (upd (upd h nx (some ⟨0, 1, zs24, none⟩)) nx (some ⟨0, 1, B, none⟩)) (.pt nx 0 0) none (some (.int .i64 (Lib.nDigits u : Int))) 24 1 F ⟨⟩ = F (.sl nx 0 0 (Lib.nDigits u) (some 24)) [nx] := fun F => sla_pt hB2 hBl (by omega)
    have hsrc : srcA (upd (upd h nx (some ⟨0, 1, zs24, none⟩)) nx (some ⟨0, 1, B, none⟩)) 1 (.sl nx 0 0 (Lib.nDigits u) (some 24)) = some ((Lib.decDigits u).length, fl byteCd (Lib.decDigits u)) := by
      rw [src_sl, hB2, Option.bind_some]
      rw [if_pos ⟨rfl, rfl, rfl, by show 0 + Lib.nDigits u * 1 ≤ B.length; omega⟩, fl_bytes, hdl, List.drop_zero, Nat.mul_one, ← hB, List.take_left' hbl]
    have ha' : Acc byteCd (upd (upd h nx (some ⟨0, 1, zs24, none⟩)) nx (some ⟨0, 1, B, none⟩)) (nx + 1) v l := ha.mono (by omega) fun j hj => by
      simp only [upd]
      rw [if_neg (by omega), if_neg (by omega)]
    have hold : ∀ j, j < nx → (upd (upd h nx (some ⟨0, 1, zs24, none⟩)) nx (some ⟨0, 1, B, none⟩)) j = h j := fun j hj => by
      simp only [upd]
      rw [if_neg (by omega), if_neg (by omega)]
    simp -dsimp [hs1]
    refine ⟨_, _, _, hfm, ?_⟩
    generalize upd (upd h nx (some ⟨0, 1, zs24, none⟩)) nx (some ⟨0, 1, B, none⟩) = G at *
    simp -dsimp [hs2, hsrc]
    refine app_acc ha' rfl rfl (by omega) (by omega) fun v' h' nx' b1 b2 b3 b4 => ?_
    simp -dsimp
    refine ⟨b1, by omega, fun j hj hne => by rw [b3 j (by omega) hne, hold j hj], fun j hj => ?_⟩
    rcases b4 j hj with e | e
    · exact .inl e
    · exact .inr (by omega)
theorem AppQ.trans {h h1 : Hp} {nx nx1 : Nat} {v v1 : V} {l l' l2 : List UInt8} (hn : nx ≤ nx1) (hf : ∀ j, j < nx → ownOf v ≠ some j → h1 j = h j) (ho : ∀ j, ownOf v1 = some j → ownOf v = some j ∨ nx ≤ j) {v' : V} {h' : Hp} {nx' : Nat} (q : AppQ h1 nx1 v1 (l ++ l') l2 v' h' nx') : AppQ h nx v l (l' ++ l2) v' h' nx' := by
  obtain ⟨a, b, c, d⟩ := q
  refine ⟨by rw [← List.append_assoc]; exact a, by omega, fun j hj hne => ?_, fun j hj => ?_⟩
  · rw [c j (by omega) (fun e => ?_), hf j hj hne]
    rcases ho j e with e | e
    · exact hne e
    · omega
  · rcases d j hj with e | e
    · exact ho j e
    · exact .inr (by omega)
theorem AppendInt0_ex {h : Hp} {nx : Nat} {v : V} {l : List UInt8} {i : Int} (ha : Acc byteCd h nx v l) (hl : l.length ≤ 999999) (h0 : -9223372036854775808 ≤ i) (h1 : i ≤ 9223372036854775807) :
    SEx Tryd.prog 65 [v, .int .i64 i, .int .i64 10] h nx (AppQ h nx v l (Lib.itoa i)) := by
  refine SEx.of hm h65 (of_decide_eq_true rfl) ?_
  unfold c65
  have e62 := Go.Ex.e62
  have e47 := Go.Ex.e47
  by_cases c : i < 0
  · obtain ⟨n, hn⟩ : ∃ n, n = i.natAbs := ⟨_, rfl⟩
    have w1 : IntKind.u64.wrap i = i + 18446744073709551616 := by rw [IntKind.wrap_u64]; omega
    have w2 : IntKind.u64.wrap (-(i + 18446744073709551616)) = (n : Int) := by rw [IntKind.wrap_u64]; omega
    have e : Lib.itoa i = [45] ++ Lib.decDigits n := by unfold Lib.itoa; rw [if_pos c, hn]; rfl
    simp -dsimp [c, w1, fillA]
    refine app_acc (l' := [(45 : UInt8)]) ha rfl rfl (by simp; omega) (by simp; omega) fun v' h' nx' b1 b2 b3 b4 => ?_
    simp -dsimp [w2]
    refine shr_ex (AppendUint_ex (u := n) b1 (by simp; omega) (by omega)) ?_
    intro v2 h2 nx2 hq
    simp -dsimp
    rw [e]
    exact hq.trans (by omega) b3 b4
  · obtain ⟨n, rfl⟩ := Int.eq_ofNat_of_zero_le (show 0 ≤ i by omega)
    have w1 : IntKind.u64.wrap (n : Int) = (n : Int) := by rw [IntKind.wrap_u64]; omega
    have e : Lib.itoa (n : Int) = Lib.decDigits n := by unfold Lib.itoa; rw [if_neg c, Int.toNat_natCast]
    simp -dsimp [c, w1]
    refine shr_ex (AppendUint_ex (u := n) ha (by omega) (by omega)) ?_
    intro v2 h2 nx2 hq
    simp -dsimp
    rw [e]
    exact hq
theorem AppendInt_ex {h : Hp} {nx : Nat} {v : V} {l : List UInt8} {i : Int} (ha : Acc byteCd h nx v l) (hl : l.length ≤ 999999) (h0 : -9223372036854775808 ≤ i) (h1 : i ≤ 9223372036854775807) :
    SEx Tryd.prog 45 [v, .int .i64 i, .int .i64 10] h nx (AppQ h nx v l (Lib.itoa i)) := by
  refine SEx.of hm h45 (of_decide_eq_true rfl) ?_
  unfold c45
  simp -dsimp
  refine shr_ex (AppendInt0_ex ha hl h0 h1) ?_
  intro v2 h2 nx2 hq
  simp -dsimp
  exact hq
end Go.Proofs.P4

