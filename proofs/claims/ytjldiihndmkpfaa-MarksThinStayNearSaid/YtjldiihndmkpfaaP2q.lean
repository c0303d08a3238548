/- The program's thinner marks. -/
import Derived.Test.YtjldiihndmkpfaaP2p
set_option linter.unusedVariables false
set_option linter.unusedSimpArgs false
set_option maxRecDepth 10000
set_option maxHeartbeats 8000000
namespace Go.Proofs.P3
open Go.Ex
abbrev cel (a b : Int) (q : Bool) : Option LB := some ⟨0, 0, [.int .i64 a, .int .i64 b, .bool q], none⟩
def Cells (m : List Mark) (s : Int) (i j b : Nat) (h : Hp) : Prop := (j = i + 1 ∧ h b = cel 0 0 false ∧ h (b + 1) = cel 0 0 false) ∨ ∃ f c : Int × Int, FlI m s i j f ∧ CeI m s i j c ∧ h b = cel f.1 f.2 true ∧ h (b + 1) = cel c.1 c.2 true
structure TI0 (m : List Mark) (s : Int) (i b : Nat) (h0 : Hp) (v7 : V) (j fr : Nat) (t : St) : Prop where
  j0 : i < j
  j1 : j ≤ m.length
  f0 : i < fr
  f1 : fr < m.length
  st : Str m s i fr
  no : ∀ k, fr < k → k < j → ¬ Str m s i k
  i12 : t.t 12 = .int .i64 j
  i11 : t.t 11 = .int .i64 fr
  i0 : t.t 0 = rM m
  i1 : t.t 1 = .int .i64 s
  i7 : t.t 7 = v7
  i8 : t.t 8 = .int .i64 i
  i9 : t.t 9 = .pt b 0 0
  i10 : t.t 10 = .pt (b + 1) 0 0
  nx : t.nx = b + 2
  hh : ∀ k, k < b → t.h k = h0 k
  ce : Cells m s i j b t.h
def TI (m : List Mark) (s : Int) (i b : Nat) (h0 : Hp) (v7 : V) (n : Nat) (t : St) : Prop := ∃ j fr : Nat, n = m.length - j ∧ TI0 m s i b h0 v7 j fr t
def TO (m : List Mark) (s : Int) (i b : Nat) (h0 : Hp) (v7 : V) (e : E) (t : St) : Prop := e = .exit 2 ∧ ∃ fr : Nat, IsNx m s i fr m.length ∧ t.t 11 = .int .i64 fr ∧ t.t 0 = rM m ∧ t.t 1 = .int .i64 s ∧ t.t 7 = v7 ∧ t.t 8 = .int .i64 i ∧ t.nx = b + 2 ∧ ∀ k, k < b → t.h k = h0 k
theorem thin_in {m : List Mark} (g : Good m) {s : Int} (s0 : 0 ≤ s) (s1 : s ≤ 1000000000) {i b : Nat} {h0 : Hp} {v7 : V} {n : Nat} {t : St} (h : TI m s i b h0 v7 n t) : LP Try.prog l34_0 (TO m s i b h0 v7) t ⟨⟩ ⟨⟩ := by
  refine loop_dec (TI m s i b h0 v7) n h (fun n t hI => ?_)
  obtain ⟨j, fr, hn, k1, k2, k3, k4, k5, k6, i12, i11, i0, i1, i7, i8, i9, i10, inx, ih, hce⟩ := hI
  have hl := g.most
  have wj : IntKind.i64.wrap ((j : Int) + 1) = ((j + 1 : Nat) : Int) := by rw [IntWalk.i64_in _ (by omega)]; simp
  unfold l34_0
  by_cases hj : j < m.length
  · have hj' : (j : Int) < (m.length : Int) := by omega
    have hg := get_mAt (l := m) (k := i) (by omega)
    have hg' := get_mAt (l := m) (k := j) hj
    have hs := g.inc i j k1 hj
    obtain ⟨⟨a1, a2⟩, ⟨a3, a4⟩, _⟩ := g.ok i (by omega)
    obtain ⟨⟨b1, b2⟩, ⟨b3, b4⟩, _⟩ := g.ok j hj
    obtain ⟨o1, o2, o3⟩ := fr_ok g s0 s1 k1 hj
    have hfn : ∀ f, FlI m s i j f → FlI m s i (j + 1) (if lsB f (flK m s i j) = true then flK m s i j else f) := fun f hf => fl_next g s0 s1 k1 hj hf
    have hcn : ∀ c, CeI m s i j c → CeI m s i (j + 1) (if lsB (ceK m s i j) c = true then ceK m s i j else c) := fun c hc => ce_next g s0 s1 k1 hj hc
    have hsi : ∀ f c, FlI m s i j f → CeI m s i j c → (Str m s i j ↔ lsB (riK m i j) f = false ∧ lsB (riK m i j) c = true) := fun f c hf hc => str_iff g k1 hj hf hc
    have hff : j = i + 1 → FlI m s i (j + 1) (flK m s i j) ∧ CeI m s i (j + 1) (ceK m s i j) := fun e => by subst e; exact fl_first g s0 s1 hj
    have eF : flK m s i j = (2 * ((mAt m j).2.1 - (mAt m i).2.1) - 2 * s - 1, (mAt m j).1 - (mAt m i).1) := rfl
    have eC : ceK m s i j = (2 * ((mAt m j).2.1 - (mAt m i).2.1) + 2 * s + 1, (mAt m j).1 - (mAt m i).1) := rfl
    have eR : riK m i j = (2 * ((mAt m j).2.1 - (mAt m i).2.1), (mAt m j).1 - (mAt m i).1) := rfl
    generalize flK m s i j = F at *
    generalize ceK m s i j = C at *
    generalize riK m i j = R at *
    generalize mAt m i = x at *
    generalize mAt m j = y at *
    have w1 : IntKind.i64.wrap (y.1 - x.1) = R.2 := by rw [eR, w_i64 (by omega) (by omega)]
    have w2 : IntKind.i64.wrap (y.2.1 - x.2.1) = y.2.1 - x.2.1 := w_i64 (by omega) (by omega)
    have w3 : IntKind.i64.wrap (2 * (y.2.1 - x.2.1)) = R.1 := by rw [eR, w_i64 (by omega) (by omega)]
    have w4 : IntKind.i64.wrap (2 * s) = 2 * s := w_i64 (by omega) (by omega)
    have w5 : IntKind.i64.wrap (R.1 - 2 * s) = R.1 - 2 * s := by rw [eR]; exact w_i64 (by simp only; omega) (by simp only; omega)
    have w6 : IntKind.i64.wrap (R.1 - 2 * s - 1) = F.1 := by rw [eR, eF]; exact w_i64 (by simp only; omega) (by simp only; omega)
    have w7 : IntKind.i64.wrap (R.1 + 2 * s) = R.1 + 2 * s := by rw [eR]; exact w_i64 (by simp only; omega) (by simp only; omega)
    have w8 : IntKind.i64.wrap (R.1 + 2 * s + 1) = C.1 := by rw [eR, eC]; exact w_i64 (by simp only; omega) (by simp only; omega)
    have r2F : R.2 = F.2 := by rw [eR, eF]
    have r2C : R.2 = C.2 := by rw [eR, eC]
    clear eF eC eR
    have n01 : ¬ b = b + 1 := by omega
    have n10 : ¬ b + 1 = b := by omega
    have fin : ∀ (fr' : Nat) (t' : St), (Str m s i j ∧ fr' = j ∨ ¬ Str m s i j ∧ fr' = fr) → t'.t 12 = .int .i64 ((j + 1 : Nat) : Int) → t'.t 11 = .int .i64 fr' → t'.t 0 = rM m → t'.t 1 = .int .i64 s → t'.t 7 = v7 → t'.t 8 = .int .i64 i → t'.t 9 = .pt b 0 0 → t'.t 10 = .pt (b + 1) 0 0 → t'.nx = b + 2 → (∀ k, k < b → t'.h k = h0 k) → Cells m s i (j + 1) b t'.h → ∃ m', m' < n ∧ TI m s i b h0 v7 m' t' := by
      intro fr' t' q0 q1 q2 q3 q4 q5 q6 q7 q8 q9 q10 q11
      refine ⟨m.length - (j + 1), by omega, j + 1, fr', rfl, by omega, by omega, ?_, ?_, ?_, ?_, q1, q2, q3, q4, q5, q6, q7, q8, q9, q10, q11⟩
      · rcases q0 with ⟨_, q0⟩ | ⟨_, q0⟩ <;> omega
      · rcases q0 with ⟨_, q0⟩ | ⟨_, q0⟩ <;> omega
      · rcases q0 with ⟨q, q0⟩ | ⟨q, q0⟩
        · rw [q0]; exact q
        · rw [q0]; exact k5
      · rcases q0 with ⟨q, q0⟩ | ⟨q, q0⟩
        · exact fun k a b => by omega
        · intro k a b
          by_cases e : k = j
          · subst e; exact q
          · exact k6 k (by omega) (by omega)
    rcases hce with ⟨e1, c1, c2⟩ | ⟨f, c, hF, hC, c1, c2⟩
    · have hst : Str m s i j := by rw [e1]; exact str_one m s i
      obtain ⟨z1, z2⟩ := hff e1
      simp -dsimp [i12, i0, i8, hj, hj', m_ia hg, m_ia hg', m_l0 hg, m_l1 hg, m_l0 hg', m_l1 hg', w1, w2, w3, i9, c1, i10, c2, n01, n10, i1, w4, w5, w6, w7, w8, fillS, wj]
      refine fin j _ (.inl ⟨hst, rfl⟩) (by simp -dsimp) (by simp -dsimp) (by simp -dsimp [i0]) (by simp -dsimp [i1]) (by simp -dsimp [i7]) (by simp -dsimp [i8]) (by simp -dsimp [i9]) (by simp -dsimp [i10]) (by simp -dsimp [inx]) (fun k hk => ?_) (.inr ⟨F, C, z1, z2, ?_, ?_⟩)
      · simp -dsimp [show ¬ k = b by omega, show ¬ k = b + 1 by omega, ih k hk]
      · simp -dsimp [n01, n10, r2F]
      · simp -dsimp [n01, n10, r2C]
    · have hst := hsi f c hF hC
      have zF := hfn f hF
      have zC := hcn c hC
      have cl1 := lessF_ok o3 hF.ok
      have cl2 := lessF_ok o3 hC.ok
      have cl3 := lessF_ok hF.ok o1
      have cl4 := lessF_ok o2 hC.ok
      rw [← r2F] at cl3
      rw [← r2C] at cl4
      simp -dsimp [i12, i0, i8, hj, hj', m_ia hg, m_ia hg', m_l0 hg, m_l1 hg, m_l0 hg', m_l1 hg', w1, w2, w3, i9, c1, n01, n10]
      refine call_pure cl1 (by simp) rfl ?_
      cases q1 : lsB R f with
      | true =>
        have hns : ¬ Str m s i j := fun h => by have := (hst.1 h).1; rw [q1] at this; cases this
        simp -dsimp [i12, i0, i8, i9, c1, i10, c2, n01, n10, i1, w4, w5, w6, w7, w8, fillS, wj]
        refine call_pure cl3 (by simp) rfl ?_
        cases q3 : lsB f F
        all_goals
          rw [q3] at zF
          simp only [if_true, Bool.false_eq_true, if_false] at zF
          simp -dsimp [i12, i0, i8, i9, c1, i10, c2, n01, n10, i1, w4, w5, w6, w7, w8, fillS, wj]
          refine call_pure cl4 (by simp) rfl ?_
          cases q4 : lsB C c
          all_goals
            rw [q4] at zC
            simp only [if_true, Bool.false_eq_true, if_false] at zC
            simp -dsimp [i12, i0, i8, i9, c1, i10, c2, n01, n10, i1, w4, w5, w6, w7, w8, fillS, wj]
            refine fin fr _ (.inr ⟨hns, rfl⟩) (by simp -dsimp) (by simp -dsimp [i11]) (by simp -dsimp [i0]) (by simp -dsimp [i1]) (by simp -dsimp [i7]) (by simp -dsimp [i8]) (by simp -dsimp [i9]) (by simp -dsimp [i10]) (by simp -dsimp [inx]) (fun k hk => ?_) (.inr ⟨_, _, zF, zC, ?_, ?_⟩)
            · simp -dsimp [show ¬ k = b by omega, show ¬ k = b + 1 by omega, ih k hk]
            · simp -dsimp [n01, n10, r2F, c1]
            · simp -dsimp [n01, n10, r2C, c2]

      | false =>
        simp -dsimp [i12, i0, i8, i9, c1, i10, c2, n01, n10, i1, w4, w5, w6, w7, w8, fillS, wj]
        refine call_pure cl2 (by simp) rfl ?_
        cases q2 : lsB R c with
        | true =>
          have hys : Str m s i j := hst.2 ⟨q1, q2⟩
          simp -dsimp [i12, i0, i8, i9, c1, i10, c2, n01, n10, i1, w4, w5, w6, w7, w8, fillS, wj]
          refine call_pure cl3 (by simp) rfl ?_
          cases q3 : lsB f F
          all_goals
            rw [q3] at zF
            simp only [if_true, Bool.false_eq_true, if_false] at zF
            simp -dsimp [i12, i0, i8, i9, c1, i10, c2, n01, n10, i1, w4, w5, w6, w7, w8, fillS, wj]
            refine call_pure cl4 (by simp) rfl ?_
            cases q4 : lsB C c
            all_goals
              rw [q4] at zC
              simp only [if_true, Bool.false_eq_true, if_false] at zC
              simp -dsimp [i12, i0, i8, i9, c1, i10, c2, n01, n10, i1, w4, w5, w6, w7, w8, fillS, wj]
              refine fin j _ (.inl ⟨hys, rfl⟩) (by simp -dsimp) (by simp -dsimp [i11]) (by simp -dsimp [i0]) (by simp -dsimp [i1]) (by simp -dsimp [i7]) (by simp -dsimp [i8]) (by simp -dsimp [i9]) (by simp -dsimp [i10]) (by simp -dsimp [inx]) (fun k hk => ?_) (.inr ⟨_, _, zF, zC, ?_, ?_⟩)
              · simp -dsimp [show ¬ k = b by omega, show ¬ k = b + 1 by omega, ih k hk]
              · simp -dsimp [n01, n10, r2F, c1]
              · simp -dsimp [n01, n10, r2C, c2]

        | false =>
          have hns : ¬ Str m s i j := fun h => by have := (hst.1 h).2; rw [q2] at this; cases this
          simp -dsimp [i12, i0, i8, i9, c1, i10, c2, n01, n10, i1, w4, w5, w6, w7, w8, fillS, wj]
          refine call_pure cl3 (by simp) rfl ?_
          cases q3 : lsB f F
          all_goals
            rw [q3] at zF
            simp only [if_true, Bool.false_eq_true, if_false] at zF
            simp -dsimp [i12, i0, i8, i9, c1, i10, c2, n01, n10, i1, w4, w5, w6, w7, w8, fillS, wj]
            refine call_pure cl4 (by simp) rfl ?_
            cases q4 : lsB C c
            all_goals
              rw [q4] at zC
              simp only [if_true, Bool.false_eq_true, if_false] at zC
              simp -dsimp [i12, i0, i8, i9, c1, i10, c2, n01, n10, i1, w4, w5, w6, w7, w8, fillS, wj]
              refine fin fr _ (.inr ⟨hns, rfl⟩) (by simp -dsimp) (by simp -dsimp [i11]) (by simp -dsimp [i0]) (by simp -dsimp [i1]) (by simp -dsimp [i7]) (by simp -dsimp [i8]) (by simp -dsimp [i9]) (by simp -dsimp [i10]) (by simp -dsimp [inx]) (fun k hk => ?_) (.inr ⟨_, _, zF, zC, ?_, ?_⟩)
              · simp -dsimp [show ¬ k = b by omega, show ¬ k = b + 1 by omega, ih k hk]
              · simp -dsimp [n01, n10, r2F, c1]
              · simp -dsimp [n01, n10, r2C, c2]

  · have hjl : j = m.length := by omega
    subst hjl
    simp -dsimp [i12, i0]
    exact ⟨rfl, fr, ⟨k3, k4, k5, k6⟩, by simp -dsimp [i11], by simp -dsimp [i0], by simp -dsimp [i1], by simp -dsimp [i7], by simp -dsimp [i8], inx, ih⟩
end Go.Proofs.P3
