/- The texts of marks, our side; The texts of marks, the reference; Marks read of a text, our side; Marks read of a text: the reference; The laws of marks' texts; The law: marks' texts come back. -/
import Derived.Test.YtjldiihndmkpfaaDoorE14
section
set_option linter.unusedVariables false
set_option linter.unusedSimpArgs false
set_option maxRecDepth 10000
set_option maxHeartbeats 8000000
namespace Go.Proofs.P4
open Go.Ex
def mAt (l : List Mark) (k : Nat) : Mark := (l[k]?).getD (0, 0, 0)
theorem m_at {l : List Mark} {k : Nat} (h : k < l.length) : l[k]? = some (mAt l k) := by
  unfold mAt
  rw [List.getElem?_eq_getElem h]
  rfl
def lnM (x : Mark) : List UInt8 := Lib.itoa x.1 ++ 32 :: (Lib.itoa x.2.1 ++ 32 :: Lib.itoa x.2.2)
def txM (l : List Mark) : Nat → List UInt8
  | 0 => []
  | k + 1 => txM l k ++ (lnM (mAt l k) ++ [10])
def textM (l : List Mark) : List UInt8 × Int := if marksE l ≠ 0 then ([], marksE l) else if 200000 < (txM l l.length).length then ([], 2) else (txM l l.length, 0)
theorem txM_len {l : List Mark} (hl : ∀ x ∈ l, MarkOk x) : ∀ k, k ≤ l.length → (txM l k).length ≤ 66 * k
  | 0, _ => Nat.le_refl _
  | k + 1, h => by
    have ih := txM_len hl k (by omega)
    obtain ⟨a1, a2, a3, a4, a5, a6⟩ := hl _ (List.mem_of_getElem? (m_at (l := l) (k := k) (by omega)))
    have := Lib.itoa_length_le (mAt l k).1 (by omega) (by omega)
    have := Lib.itoa_length_le (mAt l k).2.1 (by omega) (by omega)
    have := Lib.itoa_length_le (mAt l k).2.2 (by omega) (by omega)
    simp only [txM, lnM, List.length_append, List.length_cons, List.length_nil]
    omega
structure MTI (l : List Mark) (k : Nat) (t : St) : Prop where
  i13 : t.t 13 = rM l
  ac : Acc byteCd t.h t.nx (t.t 5) (txM l k)
theorem TextM_ok (l : List Mark) : OkF Tryd.prog 16 [rM l] (.tup [.str (textM l).1, .int .i64 (textM l).2], []) := by
  refine OkF.W0 hm h16 (of_decide_eq_true rfl) ?_
  unfold c16
  have e62 := Go.Ex.e62
  have e47 := Go.Ex.e47
  simp -dsimp
  refine call_pure (CheckMarks_ok l) (by simp) rfl ?_
  simp -dsimp
  by_cases hb : marksE l = 0
  rotate_left
  · have e : textM l = ([], marksE l) := by unfold textM; rw [if_pos hb]
    simp -dsimp [hb, e]
  have g := marks_good hb
  have e : textM l = if 200000 < (txM l l.length).length then ([], 2) else (txM l l.length, 0) := by unfold textM; rw [if_neg (by simpa using hb)]
  have hlen := txM_len g.ok l.length (Nat.le_refl _)
  have hmost := g.most
  simp -dsimp [hb]
  refine for_lt l.length (MTI l) rfl (by omega) ⟨by simp -dsimp, by simp -dsimp; exact Acc.nil _ _⟩ (by simp -dsimp) (by simp -dsimp) (fun k t hk hI hi hn => ?_) (fun t hI hi hn => ?_)
  · obtain ⟨i13, ac⟩ := hI
    have ga := m_at hk
    obtain ⟨a1, a2, a3, a4, a5, a6⟩ := g.ok _ (List.mem_of_getElem? ga)
    have hl := txM_len g.ok k (by omega)
    have hS : txM l (k + 1) = txM l k ++ Lib.itoa (mAt l k).1 ++ [32] ++ Lib.itoa (mAt l k).2.1 ++ [32] ++ Lib.itoa (mAt l k).2.2 ++ [10] := by simp [txM, lnM]
    have hl1 := Lib.itoa_length_le (mAt l k).1 (by omega) (by omega)
    have hl2 := Lib.itoa_length_le (mAt l k).2.1 (by omega) (by omega)
    have hl3 := Lib.itoa_length_le (mAt l k).2.2 (by omega) (by omega)
    generalize mAt l k = m at *
    generalize txM l k = T at *
    obtain ⟨x, y, z⟩ := m
    simp only at a1 a2 a3 a4 a5 a6 hl1 hl2 hl3 hS
    unfold k16_0
    have o0 : ∀ j, ownOf (t.t 5) = some j → j < t.nx := fun j hj => ac.own hj
    simp -dsimp [i13, hi, m_ia ga, m_ld ga]
    refine shr_ex (AppendInt_ex (ac.keep (Nat.le_succ _) fun j hj ho => ?_) (by omega) (by omega) (by omega)) ?_
    · simp only [upd]
      rw [if_neg (by omega), if_neg (by omega)]
    rintro v1 h1 nx1 ⟨c1, c2, c3, c4⟩
    have h10 : h1 t.nx = some ⟨0, 0, [.int .i64 x, .int .i64 y, .int .i64 z], none⟩ := by
      rw [c3 t.nx (by omega) (fun q => by have := o0 _ q; omega)]
      simp only [upd, if_true]
    have o1 : ∀ j, ownOf v1 = some j → j ≠ t.nx ∧ j < nx1 := fun j hj => ⟨by
      rcases c4 j hj with q | q
      · have := o0 j q; omega
      · omega, c1.own hj⟩
    simp -dsimp [fillA]
    refine app_accW (l' := [(32 : UInt8)]) c1 rfl rfl (by simp; omega) (by simp; omega) fun v2 h2 nx2 rd wr d1 d2 d3 d4 d5 => ?_
    obtain ⟨i', rfl, rfl, f1, f2, f3⟩ := d5 (by simp)
    have h20 : h2 t.nx = some ⟨0, 0, [.int .i64 x, .int .i64 y, .int .i64 z], none⟩ := by rw [d3 _ (by omega) (fun q => (o1 _ q).1 rfl), h10]
    have o2 : ∀ j, ownOf v2 = some j → j ≠ t.nx ∧ j < nx2 := fun j hj => ⟨by
      rcases d4 j hj with q | q
      · exact (o1 j q).1
      · omega, d1.own hj⟩
    have m1 : ¬ i' = t.nx := (o2 i' f3).1
    have m2 : ¬ t.nx = i' := fun q => m1 q.symm
    simp -dsimp [h20, m1, m2]
    refine shr_ex (AppendInt_ex d1 (by simp; omega) (by omega) (by omega)) ?_
    rintro v3 h3 nx3 ⟨p1, p2, p3, p4⟩
    have h30 : h3 t.nx = some ⟨0, 0, [.int .i64 x, .int .i64 y, .int .i64 z], none⟩ := by rw [p3 _ (by omega) (fun q => (o2 _ q).1 rfl), h20]
    have o3 : ∀ j, ownOf v3 = some j → j ≠ t.nx ∧ j < nx3 := fun j hj => ⟨by
      rcases p4 j hj with q | q
      · exact (o2 j q).1
      · omega, p1.own hj⟩
    simp -dsimp [fillA]
    refine app_accW (l' := [(32 : UInt8)]) p1 rfl rfl (by simp; omega) (by simp; omega) fun v4 h4 nx4 rd wr q1 q2 q3 q4 q5 => ?_
    obtain ⟨i2, rfl, rfl, g1, g2, g3⟩ := q5 (by simp)
    have h40 : h4 t.nx = some ⟨0, 0, [.int .i64 x, .int .i64 y, .int .i64 z], none⟩ := by rw [q3 _ (by omega) (fun q => (o3 _ q).1 rfl), h30]
    have o4 : ∀ j, ownOf v4 = some j → j ≠ t.nx ∧ j < nx4 := fun j hj => ⟨by
      rcases q4 j hj with q | q
      · exact (o3 j q).1
      · omega, q1.own hj⟩
    have m3 : ¬ i2 = t.nx := (o4 i2 g3).1
    have m4 : ¬ t.nx = i2 := fun q => m3 q.symm
    simp -dsimp [h40, m3, m4]
    refine shr_ex (AppendInt_ex q1 (by simp; omega) (by omega) (by omega)) ?_
    rintro v5 h5 nx5 ⟨r1, r2, r3, r4⟩
    simp -dsimp [fillA]
    refine app_acc (l' := [(10 : UInt8)]) r1 rfl rfl (by simp; omega) (by simp; omega) fun v6 h6 nx6 s1 s2 s3 s4 => ?_
    simp -dsimp [hi, hn]
    refine ⟨by simp -dsimp [i13], ?_⟩
    simp -dsimp
    rw [hS]
    exact s1
  · obtain ⟨i13, ac⟩ := hI
    generalize txM l l.length = T at *
    have hl := ac.len
    simp -dsimp [hl]
    by_cases c : 200000 < T.length
    · have c' : (200000 : Int) < (T.length : Int) := by omega
      rw [if_pos c] at e
      simp -dsimp [c', e]
    · have c' : ¬ (200000 : Int) < (T.length : Int) := by omega
      rw [if_neg c] at e
      simp -dsimp [c', e]
      refine b2s_of ac (by simp -dsimp) ?_
      simp -dsimp
      simp [e]
end Go.Proofs.P4
end
section
set_option linter.unusedVariables false
set_option linter.unusedSimpArgs false
set_option maxRecDepth 10000
set_option maxHeartbeats 8000000
namespace Go.Proofs.P4
open Go.Ex
structure MRI (l : List Mark) (k : Nat) (t : St) : Prop where
  i6 : t.t 6 = .int .i64 k
  i0 : t.t 0 = rM l
  ac : t.t 5 = .str (txM l k)
theorem TextMR_ok (l : List Mark) : OkF Tryd.prog 19 [rM l] (.tup [.str (textM l).1, .int .i64 (textM l).2], []) := by
  refine OkF.W0 hm h19 (of_decide_eq_true rfl) ?_
  unfold c19
  have e62 := Go.Ex.e62
  simp -dsimp
  refine call_pure (CheckMarksR_ok l) (by simp) rfl ?_
  simp -dsimp
  by_cases hb : marksE l = 0
  rotate_left
  · have e : textM l = ([], marksE l) := by unfold textM; rw [if_pos hb]
    simp -dsimp [hb, e]
  have g := marks_good hb
  have e : textM l = if 200000 < (txM l l.length).length then ([], 2) else (txM l l.length, 0) := by unfold textM; rw [if_neg (by simpa using hb)]
  have hlen := txM_len g.ok l.length (Nat.le_refl _)
  have hmost := g.most
  simp -dsimp [hb]
  refine loop_to 6 l.length (MRI l) (fun k t h => h.i6) ⟨by simp -dsimp, by simp -dsimp, by simp -dsimp [txM]⟩ (fun k t hk hI => ?_)
  obtain ⟨i6, i0, ac⟩ := hI
  by_cases hlt : k < l.length
  · have hlt' : (k : Int) < (l.length : Int) := by omega
    have hw : IntKind.i64.wrap ((k : Int) + 1) = (k : Int) + 1 := IntWalk.i64_in _ (by omega)
    have ga := m_at hlt
    obtain ⟨a1, a2, a3, a4, a5, a6⟩ := g.ok _ (List.mem_of_getElem? ga)
    have hl := txM_len g.ok k (by omega)
    have hS : txM l (k + 1) = txM l k ++ (Lib.itoa (mAt l k).1 ++ [32] ++ Lib.itoa (mAt l k).2.1 ++ [32] ++ Lib.itoa (mAt l k).2.2 ++ [10]) := by simp [txM, lnM]
    have hl1 := Lib.itoa_length_le (mAt l k).1 (by omega) (by omega)
    have hl2 := Lib.itoa_length_le (mAt l k).2.1 (by omega) (by omega)
    have hl3 := Lib.itoa_length_le (mAt l k).2.2 (by omega) (by omega)
    have ia := Itoa_ok (mAt l k).1 (by omega) (by omega)
    have ib := Itoa_ok (mAt l k).2.1 (by omega) (by omega)
    have ic' := Itoa_ok (mAt l k).2.2 (by omega) (by omega)
    generalize mAt l k = m at *
    generalize txM l k = T at *
    obtain ⟨x, y, z⟩ := m
    simp only at a1 a2 a3 a4 a5 a6 hl1 hl2 hl3 hS ia ib ic'
    generalize Lib.itoa x = sx at *
    generalize Lib.itoa y = sy at *
    generalize Lib.itoa z = sz at *
    have u1 : ¬ (4611686018427387904 : Int) < (sx.length : Int) + 1 := by omega
    have u2 : ¬ (4611686018427387904 : Int) < (sx.length : Int) + 1 + (sy.length : Int) := by omega
    have u3 : ¬ (4611686018427387904 : Int) < (sx.length : Int) + ((sy.length : Int) + 1) + 1 := by omega
    have u4 : ¬ (4611686018427387904 : Int) < (sx.length : Int) + ((sy.length : Int) + 1 + 1) + (sz.length : Int) := by omega
    have u5 : ¬ (4611686018427387904 : Int) < (sx.length : Int) + ((sy.length : Int) + ((sz.length : Int) + 1) + 1) + 1 := by omega
    have u6 : ¬ (4611686018427387904 : Int) < (T.length : Int) + ((sx.length : Int) + ((sy.length : Int) + ((sz.length : Int) + 1 + 1) + 1)) := by omega
    unfold l19_0
    simp -dsimp [i6, i0, ac, hlt', m_ia ga, m_l0 ga]
    refine call_pure ia (by simp) rfl ?_
    simp -dsimp [i6, i0, u1, m_ia ga, m_l1 ga]
    refine call_pure ib (by simp) rfl ?_
    simp -dsimp [i6, i0, u2, u3, m_ia ga, m_l2 ga]
    refine call_pure ic' (by simp) rfl ?_
    simp -dsimp [i6, i0, u4, u5, u6, ac, hw]
    refine ⟨by omega, by simp -dsimp, by simp -dsimp [i0], ?_⟩
    simp -dsimp
    rw [hS]
    simp
  · have hkl : k = l.length := by omega
    subst hkl
    generalize txM l l.length = T at *
    unfold l19_0
    simp -dsimp [i6, i0, ac]
    by_cases c : 200000 < T.length
    · have c' : (200000 : Int) < (T.length : Int) := by omega
      rw [if_pos c] at e
      simp -dsimp [c', e]
    · have c' : ¬ (200000 : Int) < (T.length : Int) := by omega
      rw [if_neg c] at e
      simp -dsimp [c', e]
      simp [ac, exp1]
end Go.Proofs.P4
end
section
set_option linter.unusedVariables false
set_option linter.unusedSimpArgs false
set_option maxRecDepth 10000
set_option maxHeartbeats 8000000
namespace Go.Proofs.P4
open Go.Ex
section
variable {h : Hp} {kk : IntKind} {K : V → List Nat → Prop} {l : List (List UInt8)} {a : List UInt8}
theorem s_ia0 (e : l[0]? = some a) : iaddrK h (.ro l.length (fl Cd.str l)) (.int kk 0) 1 K ⟨⟩ = K (.rp (fl Cd.str l) 0) [] := iaddr_fl (k := 0) rfl (by decide) e
theorem s_ia1 (e : l[1]? = some a) : iaddrK h (.ro l.length (fl Cd.str l)) (.int kk 1) 1 K ⟨⟩ = K (.rp (fl Cd.str l) 1) [] := iaddr_fl (k := 1) rfl (by decide) e
theorem s_ia2 (e : l[2]? = some a) : iaddrK h (.ro l.length (fl Cd.str l)) (.int kk 2) 1 K ⟨⟩ = K (.rp (fl Cd.str l) 2) [] := iaddr_fl (k := 2) rfl (by decide) e
theorem s_ld {k : Nat} (e : l[k]? = some a) : ldA h (.rp (fl Cd.str l) k) none = some (.str a) := by
  have := ld_fl0 (h := h) (d := Cd.str) (n := 1) rfl (by decide) e
  simp only [Nat.mul_one] at this
  exact this
end
/-- A line with three numbers. -/
def stM (line : List UInt8) (ms : List Mark) : List Mark × Bool :=
  match words line with
  | [a, b, c] => (ms ++ [((digV a 13).1, (digV b 13).1, (digV c 13).1)], (digV a 13).2 && (digV b 13).2 && (digV c 13).2)
  | _ => (ms, false)
theorem stM_no {line : List UInt8} (h : (words line).length ≠ 3) (ms : List Mark) : stM line ms = (ms, false) := by
  unfold stM
  split
  · rename_i e; rw [e] at h; exact absurd rfl h
  · rfl
theorem stM_three {line a b c : List UInt8} (h : words line = [a, b, c]) (ms : List Mark) : stM line ms = (ms ++ [((digV a 13).1, (digV b 13).1, (digV c 13).1)], (digV a 13).2 && (digV b 13).2 && (digV c 13).2) := by
  unfold stM
  rw [h]
structure MInv (k : Nat) (ms : List Mark) (h : Hp) (nx : Nat) : Prop where
  lk : ms.length ≤ k
  nx1 : 1 ≤ nx
  ex : ∃ v, h 0 = some ⟨0, 0, [v], none⟩ ∧ Acc markCd h nx v ms ∧ ∀ j, ownOf v = some j → 1 ≤ j
theorem readM1_body : hasBody Tryd.prog 47 = true := by kernel_rfl
theorem three {α : Type} {l : List α} (h : l.length = 3) : ∃ a b c, l = [a, b, c] := by
  match l, h with
  | [a, b, c], _ => exact ⟨a, b, c, rfl⟩
theorem readM1_ex {k : Nat} {line : List UInt8} {ms : List Mark} {h : Hp} {nx : Nat} (hl : line.length < 4000000000) (hk : k < 4000000000) (hI : MInv k ms h nx) :
    SEx Tryd.prog 47 ([.str line] ++ [.pt 0 0 0]) h nx (fun v h' nx' => v = .bool (stM line ms).2 ∧ MInv (k + 1) (stM line ms).1 h' nx') := by
  obtain ⟨lk, hnx, v, hb, ac, ow⟩ := hI
  refine SEx.of hm h47 (of_decide_eq_true rfl) ?_
  unfold c47
  have e62 := Go.Ex.e62
  have hs := Split_ok line (by omega)
  simp -dsimp
  refine call_pure hs (by simp) (by simp [V.pure, V.pureL, fl_pure]) ?_
  by_cases h3 : (words line).length = 3
  rotate_left
  · have h3' : ¬ ((words line).length : Int) = 3 := by omega
    rw [stM_no h3]
    generalize words line = ws at *
    simp -dsimp [h3']
    exact ⟨by omega, hnx, v, hb, ac, ow⟩
  obtain ⟨a, b, c, hw⟩ := three h3
  rw [stM_three hw]
  have d1 := Digits_ok a 13 (by decide)
  have d2 := Digits_ok b 13 (by decide)
  have d3 := Digits_ok c 13 (by decide)
  have g0 : (words line)[0]? = some a := by rw [hw]; rfl
  have g1 : (words line)[1]? = some b := by rw [hw]; rfl
  have g2 : (words line)[2]? = some c := by rw [hw]; rfl
  have h3' : ((words line).length : Int) = 3 := by omega
  generalize words line = ws at *
  generalize digV a 13 = r1 at *
  generalize digV b 13 = r2 at *
  generalize digV c 13 = r3 at *
  obtain ⟨n1, k1⟩ := r1
  obtain ⟨n2, k2⟩ := r2
  obtain ⟨n3, k3⟩ := r3
  simp only at d1 d2 d3
  have n0 : ¬ nx = 0 := by omega
  have n0' : ¬ 0 = nx := by omega
  simp -dsimp [h3', s_ia0 g0, s_ld g0]
  refine call_pure d1 (by simp) (by simp [V.pure, V.pureL]) ?_
  simp -dsimp [s_ia1 g1, s_ld g1]
  refine call_pure d2 (by simp) (by simp [V.pure, V.pureL]) ?_
  simp -dsimp [s_ia2 g2, s_ld g2]
  refine call_pure d3 (by simp) (by simp [V.pure, V.pureL]) ?_
  simp -dsimp [hb, fillA, fillS, n0, n0']
  refine push_accW (d := markCd) (x := ((n1, n2, n3) : Mark)) ac rfl rfl (by omega) (by omega) fun v1 h1 nx1 i b1 b2 b3 b4 b5 b6 => ?_
  have hb1 : h1 0 = some ⟨0, 0, [v], none⟩ := by rw [b3 0 (by omega) (fun e => by have := ow 0 e; omega), hb]
  obtain ⟨s1, s2⟩ := acc_st b1
  have o1 : ∀ j, ownOf v1 = some j → 1 ≤ j := fun j hj => by
    rcases b4 j hj with e | e
    · exact ow j e
    · omega
  have fin : ∀ g : Hp, (∀ j, 1 ≤ j → g j = h1 j) → g 0 = some ⟨0, 0, [v1], none⟩ → MInv (k + 1) (ms ++ [(n1, n2, n3)]) g nx1 := fun g g1 g0 =>
    ⟨by simp; omega, by omega, v1, g0, b1.keep (Nat.le_refl _) fun j hj ho => g1 j (o1 j ho), o1⟩
  cases k1 <;> cases k2 <;> cases k3 <;> simp -dsimp [-V.cells, -V.storable, hb1, s1, s2] <;> exact fin _ (fun j hj => by simp only [upd]; rw [if_neg (by omega)]) (by simp -dsimp)
def readM (text : List UInt8) : List Mark × Int × Int :=
  if 200000 < text.length then ([], 0, 2) else
  if 0 < (rdG stM (text.length + 1) text 1 []).2 then ([], (rdG stM (text.length + 1) text 1 []).2, 10) else
  if marksE (rdG stM (text.length + 1) text 1 []).1 ≠ 0 then ([], 0, marksE (rdG stM (text.length + 1) text 1 []).1) else ((rdG stM (text.length + 1) text 1 []).1, 0, 0)
theorem ReadM_ok (text : List UInt8) : OkF Tryd.prog 17 [.str text] (.tup [rM (readM text).1, .int .i64 (readM text).2.1, .int .i64 (readM text).2.2], []) := by
  refine OkF.W0 hm h17 (of_decide_eq_true rfl) ?_
  unfold c17
  by_cases c0 : 200000 < text.length
  · have c0' : (200000 : Int) < (text.length : Int) := by omega
    have e : readM text = ([], 0, 2) := by unfold readM; rw [if_pos c0]
    simp -dsimp [c0', e]
  have c0' : ¬ (200000 : Int) < (text.length : Int) := by omega
  have e : readM text = if 0 < (rdG stM (text.length + 1) text 1 []).2 then ([], (rdG stM (text.length + 1) text 1 []).2, 10) else
    if marksE (rdG stM (text.length + 1) text 1 []).1 ≠ 0 then ([], 0, marksE (rdG stM (text.length + 1) text 1 []).1) else ((rdG stM (text.length + 1) text 1 []).1, 0, 0) := by unfold readM; rw [if_neg c0]
  simp -dsimp [c0']
  refine shr_ex (lines_ex (st := stM) (Inv := MInv) (b0 := ([] : List Mark)) (text := text) (by omega) readM1_body (fun k line b h nx h1 h2 hI => readM1_ex (by omega) (by omega) hI) ⟨by simp, by simp, .ns, by simp, Acc.nil _ _, fun j hj => (by cases hj)⟩) ?_
  generalize rdG stM (text.length + 1) text 1 [] = r at *
  obtain ⟨ms, n⟩ := r
  rintro v h' nx' ⟨rfl, k, lk, hnx, v, hb, ac, ow⟩
  simp only at *
  by_cases c1 : 0 < n
  · rw [if_pos c1] at e
    simp -dsimp [c1, e]
  rw [if_neg c1] at e
  have hro := ac.ro (n := 7)
  simp -dsimp [c1, hb, hro]
  refine call_int (CheckMarks_ok ms) ?_
  simp -dsimp
  by_cases c2 : marksE ms = 0
  · rw [if_neg (by simpa using c2)] at e
    simp -dsimp [c2, hb, e]
    simp [ac.ex1]
  · rw [if_pos c2] at e
    simp -dsimp [c2, e]
end Go.Proofs.P4
end
section
set_option linter.unusedVariables false
set_option linter.unusedSimpArgs false
set_option maxRecDepth 10000
set_option maxHeartbeats 8000000
namespace Go.Proofs.P4
open Go.Ex
def RMI (text : List UInt8) (n : Nat) (t : St) : Prop := ∃ (f k : Nat) (tx : List UInt8) (b : List Mark), n = tx.length ∧ tx.length < f ∧ k + tx.length ≤ text.length ∧ rdG stM f tx ((k : Int) + 1) b = rdG stM (text.length + 1) text 1 [] ∧ t.t 0 = .str tx ∧ t.t 6 = .int .i64 ((k + 1 : Nat) : Int) ∧ b.length ≤ k ∧ Acc markCd t.h t.nx (t.t 5) b
def RMO (text : List UInt8) (e : E) (t : St) : Prop := (e = .exit 0 ∧ ∃ (b : List Mark), rdG stM (text.length + 1) text 1 [] = (b, 0) ∧ Acc markCd t.h t.nx (t.t 5) b) ∨ (e = .ret ∧ ∃ (b : List Mark) (n : Int), rdG stM (text.length + 1) text 1 [] = (b, n) ∧ 0 < n ∧ t.t 2 = .ns ∧ t.t 3 = .int .i64 n ∧ t.t 4 = .int .i64 10)
theorem readMR_loop {text : List UInt8} (hl : text.length < 4000000000) {n : Nat} {t : St} (hI : RMI text n t) : LP Tryd.prog l20_0 (RMO text) t ⟨⟩ ⟨⟩ := by
  refine loop_dec (RMI text) n hI (fun n t hI => ?_)
  obtain ⟨f, k, tx, b, hn, hf, hk, he, i0, i6, lk, ac⟩ := hI
  have e62 := Go.Ex.e62
  generalize hR : rdG stM (text.length + 1) text 1 [] = R at he
  unfold l20_0
  cases f with
  | zero => omega
  | succ f =>
  by_cases c0 : tx = []
  · subst c0
    rw [rdG, if_pos rfl] at he
    simp -dsimp [i0]
    exact .inl ⟨rfl, b, hR.trans he.symm, by simp -dsimp; exact ac⟩
  have hp : 0 < tx.length := List.length_pos_iff.2 c0
  have hlt := ib_lt tx 10
  rw [rdG, if_neg c0] at he
  have hcut := Cut_ok tx [10] (by omega)
  have out : ∀ (b' : List Mark) (t' : St), R = (b', (k : Int) + 1) → t'.t 2 = .ns → t'.t 3 = .int .i64 ((k + 1 : Nat) : Int) → t'.t 4 = .int .i64 10 → RMO text .ret t' := fun b' t' e1 e2 e3 e4 => .inr ⟨rfl, b', _, hR.trans e1, by omega, e2, e3, e4⟩
  by_cases c1 : Lib.indexByte tx 10 < 0
  · rw [if_pos c1] at he
    rw [cut_miss c1] at hcut
    have hs := Split_ok tx (by omega)
    generalize words tx = ws at *
    simp -dsimp [i0, c0]
    refine call_pure hcut (by simp) (by simp [V.pure, V.pureL]) ?_
    simp -dsimp
    refine call_pure hs (by simp) (by simp [V.pure, V.pureL, fl_pure]) ?_
    simp -dsimp [i6]
    exact out b _ he.symm (by simp -dsimp) (by simp -dsimp) (by simp -dsimp)
  · rw [if_neg c1] at he
    obtain ⟨i, hi⟩ := Int.eq_ofNat_of_zero_le (show 0 ≤ Lib.indexByte tx 10 by omega)
    rw [cut_hit hi] at hcut
    rw [hi] at he hlt
    simp only [Int.toNat_natCast] at he
    have hs := Split_ok (tx.take i) (by rw [List.length_take]; omega)
    by_cases h3 : (words (tx.take i)).length = 3
    rotate_left
    · have h3' : ¬ ((words (tx.take i)).length : Int) = 3 := by omega
      rw [stM_no h3] at he
      generalize words (tx.take i) = ws at *
      simp -dsimp [i0, c0]
      refine call_pure hcut (by simp) (by simp [V.pure, V.pureL]) ?_
      simp -dsimp
      refine call_pure hs (by simp) (by simp [V.pure, V.pureL, fl_pure]) ?_
      simp -dsimp [h3', i6]
      exact out b _ (by rw [← he]; simp) (by simp -dsimp) (by simp -dsimp) (by simp -dsimp)
    obtain ⟨a, bb, c, hw⟩ := three h3
    rw [stM_three hw] at he
    have d1 := Number_ok a 13 (by decide)
    have d2 := Number_ok bb 13 (by decide)
    have d3 := Number_ok c 13 (by decide)
    have g0 : (words (tx.take i))[0]? = some a := by rw [hw]; rfl
    have g1 : (words (tx.take i))[1]? = some bb := by rw [hw]; rfl
    have g2 : (words (tx.take i))[2]? = some c := by rw [hw]; rfl
    have h3' : ((words (tx.take i)).length : Int) = 3 := by omega
    generalize words (tx.take i) = ws at *
    generalize digV a 13 = r1 at *
    generalize digV bb 13 = r2 at *
    generalize digV c 13 = r3 at *
    obtain ⟨n1, k1⟩ := r1
    obtain ⟨n2, k2⟩ := r2
    obtain ⟨n3, k3⟩ := r3
    simp only at d1 d2 d3 he
    have bad : (k1 && k2 && k3) = false → R = (b ++ [(n1, n2, n3)], (k : Int) + 1) := fun h => by rw [← he, if_neg (by rw [h]; simp)]
    have good : (k1 && k2 && k3) = true → rdG stM f (tx.drop (i + 1)) ((k : Int) + 1 + 1) (b ++ [(n1, n2, n3)]) = R := fun h => by rw [← he, if_pos h]
    clear he
    have w2 : IntKind.i64.wrap ((k : Int) + 1 + 1) = (k : Int) + 1 + 1 := w_i64 (by omega) (by omega)
    simp -dsimp [i0, c0]
    refine call_pure hcut (by simp) (by simp [V.pure, V.pureL]) ?_
    simp -dsimp
    refine call_pure hs (by simp) (by simp [V.pure, V.pureL, fl_pure]) ?_
    simp -dsimp [h3', s_ia0 g0, s_ld g0]
    refine call_pure d1 (by simp) (by simp [V.pure, V.pureL]) ?_
    simp -dsimp [s_ia1 g1, s_ld g1]
    refine call_pure d2 (by simp) (by simp [V.pure, V.pureL]) ?_
    simp -dsimp [s_ia2 g2, s_ld g2]
    refine call_pure d3 (by simp) (by simp [V.pure, V.pureL]) ?_
    by_cases hok : (k1 && k2 && k3) = true
    · have hg := good hok
      simp only [Bool.and_eq_true] at hok
      obtain ⟨⟨rfl, rfl⟩, rfl⟩ := hok
      simp -dsimp [fillS, fillA]
      refine push_accW (d := markCd) (x := ((n1, n2, n3) : Mark)) ac rfl rfl (by omega) (by omega) fun v1 h1 nx1 i' b1 b2 b3 b4 b5 b6 => ?_
      simp -dsimp [i6, w2]
      refine ⟨(tx.drop (i + 1)).length, by rw [hn, List.length_drop]; omega, f, k + 1, tx.drop (i + 1), b ++ [(n1, n2, n3)], rfl, by rw [List.length_drop]; omega, by rw [List.length_drop]; omega, ?_, by simp -dsimp, by simp -dsimp [w2], by simp; omega, by simp -dsimp; exact b1⟩
      rw [hR, ← hg]
      congr 1
    · have hb := bad (by simpa using hok)
      cases k1 <;> cases k2 <;> cases k3 <;> first | exact absurd rfl hok | (simp -dsimp [i6]; exact out _ _ hb (by simp -dsimp) (by simp -dsimp) (by simp -dsimp))
theorem ReadMR_ok (text : List UInt8) : OkF Tryd.prog 20 [.str text] (.tup [rM (readM text).1, .int .i64 (readM text).2.1, .int .i64 (readM text).2.2], []) := by
  refine OkF.W0 hm h20 (of_decide_eq_true rfl) ?_
  unfold c20
  by_cases c0 : 200000 < text.length
  · have c0' : (200000 : Int) < (text.length : Int) := by omega
    have e : readM text = ([], 0, 2) := by unfold readM; rw [if_pos c0]
    simp -dsimp [c0', e]
  have c0' : ¬ (200000 : Int) < (text.length : Int) := by omega
  have e : readM text = if 0 < (rdG stM (text.length + 1) text 1 []).2 then ([], (rdG stM (text.length + 1) text 1 []).2, 10) else
    if marksE (rdG stM (text.length + 1) text 1 []).1 ≠ 0 then ([], 0, marksE (rdG stM (text.length + 1) text 1 []).1) else ((rdG stM (text.length + 1) text 1 []).1, 0, 0) := by unfold readM; rw [if_neg c0]
  simp -dsimp [c0']
  refine LP_cut _ (readMR_loop (text := text) (by omega) (n := text.length) ⟨text.length + 1, 0, text, [], rfl, by omega, by omega, by simp, by simp -dsimp, by simp -dsimp, by simp, by simp -dsimp; exact Acc.nil _ _⟩) ?_
  rintro ee t (⟨rfl, b, hR, ac⟩ | ⟨rfl, b, n, hR, hn, t2, t3, t4⟩)
  · rw [hR] at e
    rw [if_neg (by simp)] at e
    simp only at e
    have hro := ac.ro (n := 7)
    simp -dsimp [hro]
    refine call_int (CheckMarksR_ok b) ?_
    simp -dsimp
    by_cases c2 : marksE b = 0
    · rw [if_neg (by simpa using c2)] at e
      simp -dsimp [c2, e]
      simp [ac.ex1]
    · rw [if_pos c2] at e
      simp -dsimp [c2, e]
  · rw [hR, if_pos hn] at e
    simp -dsimp [t2, t3, t4, e]
end Go.Proofs.P4
end
section
set_option linter.unusedVariables false
set_option linter.unusedSimpArgs false
set_option maxRecDepth 10000
set_option maxHeartbeats 8000000
namespace Go.Proofs.P4
open Go.Ex
theorem dec_inv : ∀ (r : List UInt8) (acc n : Nat) (b : UInt8), Lib.decFrom acc (r ++ [b]) = some n → ∃ m d, Lib.decFrom acc r = some m ∧ Lib.digitVal b = some d ∧ n = m * 10 + d
  | [], acc, n, b, h => by
    rw [List.nil_append, Lib.decFrom] at h
    cases hd : Lib.digitVal b with
    | none => rw [hd] at h; cases h
    | some d =>
      rw [hd] at h
      simp only [Lib.decFrom, Option.some.injEq] at h
      exact ⟨acc, d, rfl, rfl, h.symm⟩
  | a :: r, acc, n, b, h => by
    rw [List.cons_append, Lib.decFrom] at h
    rw [Lib.decFrom]
    cases ha : Lib.digitVal a with
    | none => rw [ha] at h; cases h
    | some e =>
      rw [ha] at h
      exact dec_inv r _ n b h
theorem dig_inv {b : UInt8} {d : Nat} (h : Lib.digitVal b = some d) : UInt8.ofNat (48 + d) = b ∧ d < 10 := by
  obtain ⟨h1, h2, rfl⟩ := Lib.digitVal_eq h
  refine ⟨?_, by omega⟩
  rw [show 48 + (b.toNat - 48) = b.toNat by omega, UInt8.ofNat_toNat]
theorem dec_back : ∀ (k : Nat) (s : List UInt8) (n : Nat), s.length = k + 1 → (s[0]? = some 48 → s.length = 1) → Lib.decFrom 0 s = some n → Lib.decDigits n = s
  | 0, s, n, hl, h0, h => by
    match s, hl with
    | [b], _ =>
      obtain ⟨m, d, h1, h2, rfl⟩ := dec_inv [] 0 n b h
      simp only [Lib.decFrom, Option.some.injEq] at h1
      subst h1
      obtain ⟨h3, h4⟩ := dig_inv h2
      rw [Lib.decDigits_one (by omega), Nat.zero_mul, Nat.zero_add, h3]
  | k + 1, s, n, hl, h0, h => by
    have hne : s ≠ [] := fun q => by rw [q] at hl; simp at hl
    obtain ⟨r, b, rfl⟩ : ∃ r b, s = r ++ [b] := ⟨s.dropLast, s.getLast hne, (List.dropLast_concat_getLast hne).symm⟩
    obtain ⟨m, d, h1, h2, rfl⟩ := dec_inv r 0 n b h
    simp only [List.length_append, List.length_cons, List.length_nil] at hl h0
    rw [List.getElem?_append_left (by omega)] at h0
    have ih := dec_back k r m (by omega) (fun q => by have := h0 q; omega) h1
    obtain ⟨h3, h4⟩ := dig_inv h2
    have hm : m ≠ 0 := by
      rintro rfl
      rw [Lib.decDigits_one (by decide)] at ih
      have := h0 (by rw [← ih]; rfl)
      omega
    rw [Lib.decDigits, dif_neg (by omega), show (m * 10 + d) / 10 = m by omega, show (m * 10 + d) % 10 = d by omega, ih, h3]
theorem digV_back {s : List UInt8} {most : Nat} (h : (digV s most).2 = true) : Lib.itoa (digV s most).1 = s := by
  unfold digV at h ⊢
  by_cases h0 : s = []
  · rw [if_pos h0] at h; cases h
  rw [if_neg h0] at h ⊢
  by_cases h1 : most < s.length
  · rw [if_pos h1] at h; cases h
  rw [if_neg h1] at h ⊢
  by_cases h2 : s[0]? = some 48 ∧ 1 < s.length
  · rw [if_pos h2] at h; cases h
  rw [if_neg h2] at h ⊢
  have hp : 0 < s.length := List.length_pos_iff.2 h0
  cases hd : Lib.decFrom 0 s with
  | none => rw [hd] at h; cases h
  | some n =>
    simp only
    rw [Lib.itoa_nonneg]
    exact dec_back (s.length - 1) s n (by omega) (fun q => by have : ¬ 1 < s.length := fun z => h2 ⟨q, z⟩
                                                              omega) hd
theorem stM_line {x : Mark} (hx : MarkOk x) (ms : List Mark) : stM (lnM x) ms = (ms ++ [x], true) := by
  obtain ⟨a1, a2, a3, a4, a5, a6⟩ := hx
  have hw : words (lnM x) = [Lib.itoa x.1, Lib.itoa x.2.1, Lib.itoa x.2.2] := by
    unfold lnM
    rw [words_cons (itoa_no (by decide)), words_cons (itoa_no (by decide)), words_one (itoa_no (by decide))]
  rw [stM_three hw, digV_itoa (k := 12) a1 (by omega), digV_itoa (k := 12) a3 (by omega), digV_itoa (k := 12) a5 (by omega)]
  rfl
theorem lnM_no (x : Mark) : (10 : UInt8) ∉ lnM x := by
  unfold lnM
  intro q
  rw [List.mem_append, List.mem_cons, List.mem_append, List.mem_cons] at q
  rcases q with q | q | q | q | q
  · exact itoa_no (by decide) q
  · revert q; decide
  · exact itoa_no (by decide) q
  · revert q; decide
  · exact itoa_no (by decide) q
theorem txM_join (l : List Mark) : ∀ k, txM l k = joinL (fun i => lnM (mAt l i)) 0 k
  | 0 => rfl
  | k + 1 => by
    rw [joinL_snoc, txM, txM_join l k]
    simp
theorem takeM {l : List Mark} {k : Nat} (h : k < l.length) : l.take k ++ [mAt l k] = l.take (k + 1) := by
  rw [List.take_add_one, m_at h]
  rfl
theorem readM_tx {l : List Mark} (g : MarksOk l) (hl : ¬ 200000 < (txM l l.length).length) : readM (txM l l.length) = (l, 0, 0) := by
  have hr : rdG stM ((txM l l.length).length + 1) (txM l l.length) 1 [] = (l, 0) := by
    have := rdG_join (st := stM) (L := fun i => lnM (mAt l i)) (B := fun i => l.take i) l.length 0 ((joinL (fun i => lnM (mAt l i)) 0 l.length).length + 1) 1 (by omega) fun i _ hi => ⟨lnM_no _, by
      rw [stM_line (g.ok _ (List.mem_of_getElem? (m_at (by omega)))), takeM (by omega)]⟩
    rw [txM_join]
    simp only [List.take_zero, Nat.zero_add] at this
    rw [this, List.take_length]
  unfold readM
  rw [if_neg hl, hr, marks_mk g]
  simp
def flM : List Mark → List UInt8
  | [] => []
  | x :: r => lnM x ++ 10 :: flM r
theorem flM_snoc : ∀ (l : List Mark) (x : Mark), flM (l ++ [x]) = flM l ++ (lnM x ++ [10])
  | [], x => by simp [flM]
  | y :: l, x => by simp [flM, flM_snoc l x]
theorem txM_fl (l : List Mark) : ∀ k, k ≤ l.length → txM l k = flM (l.take k)
  | 0, _ => rfl
  | k + 1, h => by
    rw [txM, txM_fl l k (by omega), ← takeM (by omega), flM_snoc]
theorem stM_back {line : List UInt8} {ms ms' : List Mark} (h : stM line ms = (ms', true)) : ∃ x, ms' = ms ++ [x] ∧ line = lnM x := by
  by_cases h3 : (words line).length = 3
  · obtain ⟨a, b, c, hw⟩ := three h3
    rw [stM_three hw] at h
    injection h with h1 h2
    simp only [Bool.and_eq_true] at h2
    refine ⟨_, h1.symm, ?_⟩
    rw [words3 hw]
    unfold lnM
    simp only
    rw [digV_back h2.1.1, digV_back h2.1.2, digV_back h2.2]
  · rw [stM_no h3] at h
    injection h with _ h2
    cases h2
theorem rd_back : ∀ (f : Nat) (text : List UInt8) (n : Int) (b b' : List Mark), 0 < n → rdG stM f text n b = (b', 0) → ∃ ms, b' = b ++ ms ∧ text = flM ms
  | 0, text, n, b, b', hn, h => by
    rw [rdG] at h
    injection h with _ h2
    omega
  | f + 1, text, n, b, b', hn, h => by
    rw [rdG] at h
    split at h
    · rename_i q
      injection h with h1 _
      exact ⟨[], by simp [h1], by rw [q]; rfl⟩
    split at h
    · injection h with _ h2
      omega
    rename_i q1 q2
    obtain ⟨i, hi⟩ := Int.eq_ofNat_of_zero_le (show 0 ≤ Lib.indexByte text 10 by omega)
    rw [hi, Int.toNat_natCast] at h
    split at h
    · rename_i q3
      obtain ⟨x, h1, h2⟩ := stM_back (ms' := (stM (text.take i) b).1) (by rw [← q3])
      obtain ⟨ms, h3, h4⟩ := rd_back f _ _ _ _ (by omega) h
      refine ⟨x :: ms, by rw [h3, h1]; simp, ?_⟩
      rw [flM, ← h2, ← h4]
      exact ib_cut text 10 i hi
    · injection h with _ h2
      omega
theorem readM_back {text : List UInt8} {ms : List Mark} {n : Int} (h : readM text = (ms, n, 0)) : textM ms = (text, 0) := by
  unfold readM at h
  split at h
  · simp at h
  split at h
  · simp at h
  split at h
  · rename_i q
    simp only [Prod.mk.injEq] at h
    exact absurd h.2.2 q
  rename_i q1 q2 q3
  simp only [Prod.mk.injEq] at h
  have hz : 0 ≤ (rdG stM (text.length + 1) text 1 []).2 := by
    generalize text.length + 1 = f
    have : ∀ (f : Nat) (text : List UInt8) (n : Int) (b : List Mark), 0 ≤ n → 0 ≤ (rdG stM f text n b).2 := by
      intro f
      induction f with
      | zero => intro text n b h; exact h
      | succ f ih =>
        intro text n b h
        rw [rdG]
        split
        · simp
        split
        · exact h
        split
        · exact ih _ _ _ (by omega)
        · exact h
    exact this f text 1 [] (by omega)
  have hr : rdG stM (text.length + 1) text 1 [] = (ms, 0) := Prod.ext h.1 (by simp only; omega)
  obtain ⟨ms', h1, h2⟩ := rd_back _ _ _ _ _ (by omega) hr
  rw [List.nil_append] at h1
  subst h1
  rw [hr] at q3
  unfold textM
  rw [if_neg q3, txM_fl ms ms.length (Nat.le_refl _), List.take_length, ← h2, if_neg q1]
theorem readM_len (text : List UInt8) : (readM text).1.length < 2 ^ 62 := by
  unfold readM
  split
  · simp
  split
  · simp
  split
  · simp
  · rename_i q
    have := (marks_good (by simpa using q)).most
    simp only
    omega
theorem MarksTextsMatchSpec (l : List Mark) (text : List UInt8) : OkF Tryd.prog 6 [rM l, .str text] (.bool true, []) := by
  refine OkF.W0 hm h6 (of_decide_eq_true rfl) ?_
  unfold c6
  have k1 := TextM_ok l
  have k2 := TextMR_ok l
  have k3 := ReadM_ok text
  have k4 := ReadMR_ok text
  have hl := readM_len text
  generalize textM l = r at *
  generalize readM text = q at *
  obtain ⟨x, f⟩ := r
  obtain ⟨ms, n, g⟩ := q
  simp only at *
  simp -dsimp
  refine call_pure k1 (by simp) (by simp [V.pure, V.pureL]) ?_
  simp -dsimp
  refine call_pure k2 (by simp) (by simp [V.pure, V.pureL]) ?_
  simp -dsimp
  refine call_pure k3 (by simp) (by simp [V.pure, V.pureL, fl_pure]) ?_
  simp -dsimp
  refine call_pure k4 (by simp) (by simp [V.pure, V.pureL, fl_pure]) ?_
  simp -dsimp
  refine call_bool (equalM_ok ms ms hl) ?_
  simp -dsimp
  refine call_pure awake2_ok (by simp) rfl ?_
  simp -dsimp
end Go.Proofs.P4
end
section
set_option linter.unusedVariables false
set_option linter.unusedSimpArgs false
set_option maxRecDepth 10000
set_option maxHeartbeats 8000000
namespace Go.Proofs.P4
open Go.Ex
theorem readM_bad {text : List UInt8} (h : (readM text).2.2 ≠ 0) : (readM text).1 = [] := by
  unfold readM at h ⊢
  split
  · rfl
  split
  · rfl
  split
  · rfl
  · rename_i q1 q2 q3
    rw [if_neg q1, if_neg q2, if_neg q3] at h
    exact absurd rfl h
theorem MarksTextsComeBack (l : List Mark) (text : List UInt8) : OkF Tryd.prog 5 [rM l, .str text] (.bool true, []) := by
  refine OkF.W0 hm h5 (of_decide_eq_true rfl) ?_
  unfold c5
  have k1 := TextM_ok l
  have k3 := ReadM_ok text
  have hbad := readM_bad (text := text)
  have hback := fun ms n => readM_back (text := text) (ms := ms) (n := n)
  have hlen := readM_len text
  have r1 : (textM l).2 = 0 → readM (textM l).1 = (l, 0, 0) ∧ l.length < 2 ^ 62 := fun h => by
    unfold textM at h ⊢
    by_cases hb : marksE l = 0
    · have g := marks_good hb
      rw [if_neg (by simpa using hb)] at h ⊢
      split at h
      · cases h
      · rename_i q
        rw [if_neg q]
        exact ⟨readM_tx g q, by have := g.most; omega⟩
    · rw [if_pos hb] at h
      exact absurd h hb
  have k2 := ReadM_ok (textM l).1
  have k4 : ∀ ms, (readM text).1 = ms → OkF Tryd.prog 16 [rM ms] (.tup [.str (textM ms).1, .int .i64 (textM ms).2], []) := fun ms _ => TextM_ok ms
  generalize readM text = q at *
  obtain ⟨ms, n, g⟩ := q
  simp only at hbad hback hlen k3 k4
  simp -dsimp
  by_cases hf : (textM l).2 = 0
  · obtain ⟨e1, e2⟩ := r1 hf
    rw [e1] at k2
    generalize textM l = r at *
    obtain ⟨x, f⟩ := r
    simp only at hf k1 k2
    subst hf
    refine call_pure k1 (by simp) (by simp [V.pure, V.pureL]) ?_
    simp -dsimp
    refine call_pure k2 (by simp) (by simp [V.pure, V.pureL, fl_pure]) ?_
    simp -dsimp
    refine call_bool (equalM_ok l l e2) ?_
    simp -dsimp
    refine call_pure k3 (by simp) (by simp [V.pure, V.pureL, fl_pure]) ?_
    by_cases hg : g = 0
    · subst hg
      have k5 := k4 ms rfl
      rw [hback ms n rfl] at k5
      simp -dsimp
      refine call_pure k5 (by simp) (by simp [V.pure, V.pureL]) ?_
      simp -dsimp
      refine call_pure awake2_ok (by simp) rfl ?_
      simp -dsimp
    · have := hbad hg
      subst this
      simp -dsimp [hg]
      refine call_pure awake2_ok (by simp) rfl ?_
      simp -dsimp
  · generalize textM l = r at *
    obtain ⟨x, f⟩ := r
    simp only at hf k1
    refine call_pure k1 (by simp) (by simp [V.pure, V.pureL]) ?_
    simp -dsimp [hf]
    refine call_pure k3 (by simp) (by simp [V.pure, V.pureL, fl_pure]) ?_
    by_cases hg : g = 0
    · subst hg
      have k5 := k4 ms rfl
      rw [hback ms n rfl] at k5
      simp -dsimp
      refine call_pure k5 (by simp) (by simp [V.pure, V.pureL]) ?_
      simp -dsimp
      refine call_pure awake2_ok (by simp) rfl ?_
      simp -dsimp
    · have := hbad hg
      subst this
      simp -dsimp [hg]
      refine call_pure awake2_ok (by simp) rfl ?_
      simp -dsimp
end Go.Proofs.P4
end
