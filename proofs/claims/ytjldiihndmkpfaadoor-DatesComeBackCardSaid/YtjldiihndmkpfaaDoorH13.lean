/- Dates are read: our side; the loop over the form. -/
import Derived.Test.YtjldiihndmkpfaaDoorH12
set_option linter.unusedVariables false
set_option linter.unusedSimpArgs false
set_option maxRecDepth 10000
set_option maxHeartbeats 8000000
namespace Go.Proofs.P4
open Go.Ex
structure FL (s : List UInt8) (ar : V) (k : Nat) (t : St) : Prop where
  i29 : t.t 29 = .int .i64 k
  i0 : t.t 0 = ar
  i1 : t.t 1 = .str s
  ex : ∃ l, Nums s k l ∧ Acc ic t.h t.nx (t.t 7) l
  ok : ∀ (i : Nat) f c, i < k → form[i]? = some f → s[i]? = some c → okc f c
def FO (s : List UInt8) (ar : V) (e : E) (t : St) : Prop := (e = .exit 0 ∧ Fm s ∧ t.t 0 = ar ∧ ∃ l, Nums s 23 l ∧ Acc ic t.h t.nx (t.t 7) l) ∨ (e = .ret ∧ ¬ Fm s ∧ t.t 4 = .int .i64 0 ∧ t.t 5 = .int .i64 10)
theorem form_loop {s : List UInt8} {ar : V} (hl : s.length = 23) {t0 : St} (hI : FL s ar 0 t0) : LP Tryd.prog l11_0 (FO s ar) t0 ⟨⟩ ⟨⟩ := by
  have e62 := Go.Ex.e62
  have e47 := Go.Ex.e47
  refine loop_to 29 23 (FL s ar) (fun k t h => h.i29) hI (fun k t hk hI => ?_)
  obtain ⟨i29, i0, i1, ⟨l, hN, ac⟩, iu⟩ := hI
  by_cases hlt : k < 23
  rotate_left
  · have hkl : k = 23 := by omega
    subst hkl
    unfold l11_0
    simp -dsimp [i29]
    exact .inl ⟨rfl, ⟨hl, fun i f c hf hc => iu i f c (by have := (List.getElem?_eq_some_iff.1 hc).1; omega) hf hc⟩, by simp -dsimp [i0], l, hN, by simp -dsimp; exact ac⟩
  have hlt' : (k : Int) < 23 := by omega
  have gf := digG (s := form) (k := k) (by exact hlt)
  have gc := digG (s := s) (k := k) (by omega)
  generalize form.getD k 0 = f at *
  generalize s.getD k 0 = c at *
  have gf' : form[((k : Nat) : Int).toNat]? = some f := by rw [Int.toNat_natCast]; exact gf
  have gc' : s[((k : Nat) : Int).toNat]? = some c := by rw [Int.toNat_natCast]; exact gc
  have gm := gf
  unfold form at gf gf'
  have hw : IntKind.i64.wrap ((k : Int) + 1) = (k : Int) + 1 := IntWalk.i64_in _ (by omega)
  have bad : ¬ okc f c → ¬ Fm s := fun q w => q (w.2 k f c gm gc)
  have good : okc f c → ∀ (i : Nat) f c, i < k + 1 → form[i]? = some f → s[i]? = some c → okc f c := fun q i f' c' hi hf hc => by
    rcases Nat.lt_or_ge i k with w | w
    · exact iu i f' c' w hf hc
    · have : i = k := by omega
      subst this
      rw [gm] at hf
      rw [gc] at hc
      injection hf with hf
      injection hc with hc
      subst hf hc
      exact q
  have hl1 := hN.len
  obtain ⟨id, ver, off, cap, cells, hv, hid, hb, hoff, hld, hst⟩ := acc_cells ac (by omega)
  unfold l11_0
  by_cases q : f = 48
  · subst q
    have e : okc 48 c ↔ isD c := by unfold okc; rw [if_pos rfl]
    rw [e] at bad good
    obtain ⟨g1, g2, g3, g4, g5, g6, g7⟩ := grp_dig k hlt gm
    by_cases q1 : (48 : Int) ≤ (c.toNat : Int)
    rotate_left
    · have hbad := bad (by unfold isD; omega)
      simp -dsimp [i29, i1, hlt', gf, gf', gc, gc', q1]
      exact .inr ⟨rfl, hbad, by simp -dsimp, by simp -dsimp⟩
    by_cases q2 : (c.toNat : Int) ≤ 57
    rotate_left
    · have hbad := bad (by unfold isD; omega)
      simp -dsimp [i29, i1, hlt', gf, gf', gc, gc', q1, q2]
      exact .inr ⟨rfl, hbad, by simp -dsimp, by simp -dsimp⟩
    have hD : isD c := by unfold isD; omega
    obtain ⟨hN', hlast⟩ := hN.dig hlt gm gc
    have hvb : vl (seg s (stt (gi k)) (k - stt (gi k))) < 10 ^ (seg s (stt (gi k)) (k - stt (gi k))).length := vl_lt (seg_isDk iu g7 (by omega))
    have hvb2 : vl (seg s (stt (gi k)) (k - stt (gi k))) < 10000 := Nat.lt_of_lt_of_le hvb (by
      have : (seg s (stt (gi k)) (k - stt (gi k))).length ≤ 4 := by unfold seg; rw [List.length_take]; omega
      exact Nat.pow_le_pow_right (by decide) this)
    generalize vl (seg s (stt (gi k)) (k - stt (gi k))) = x at *
    have hcell := hld _ _ hlast
    have w0 : IntKind.i64.wrap ((l.length : Int) - 1) = ((gi k : Nat) : Int) := by rw [w_i64 (by omega) (by omega)]; omega
    have w1 : IntKind.i64.wrap ((x : Int) * 10) = (x : Int) * 10 := w_i64 (by omega) (by omega)
    have w2 : IntKind.u8.wrap ((c.toNat : Int) - 48) = ((c.toNat - 48 : Nat) : Int) := by unfold isD at hD; rw [IntWalk.u8_in _ (by omega)]; omega
    have w3 : IntKind.i64.wrap ((c.toNat - 48 : Nat) : Int) = ((c.toNat - 48 : Nat) : Int) := w_i64 (by omega) (by omega)
    have w4 : IntKind.i64.wrap ((x : Int) * 10 + ((c.toNat - 48 : Nat) : Int)) = ((x * 10 + (c.toNat - 48) : Nat) : Int) := by have := c.toNat_lt; rw [w_i64 (by omega) (by omega)]; omega
    generalize c.toNat - 48 = dd at *
    generalize x * 10 + dd = x' at *
    have hgl : gi k < l.length := by omega
    have ia : ∀ {K : V → List Nat → Prop}, iaddrK t.h (.sl id ver off l.length cap) (.int .i64 (gi k : Nat)) 1 K ⟨⟩ = K (.pt id ver (off + gi k)) [id] := fun {K} => by rw [iaddr_sl hb rfl hgl, Nat.mul_one]
    generalize gi k = g at *
    have hol : off + g + 1 ≤ cells.length := by omega
    have hld2 := ld_pt (o := off + g) hb
    rw [hcell] at hld2
    simp -dsimp [i29, i1, hlt', gf, gf', gc, gc', q1, q2, hv, w0, w1, w2, w3, w4, ia, hld2, hb, hol, hw]
    refine ⟨hlt, by simp -dsimp, by simp -dsimp [i0], by simp -dsimp [i1], ⟨l.set g x', hN', ?_⟩, good hD⟩
    simp -dsimp [hv]
    exact hst g x' _ _ hgl (Nat.le_refl _) (by simp)
  · have q' : ¬ (f.toNat : Int) = 48 := fun w => q (u8_inj (b := 48) |>.1 w)
    have e : okc f c ↔ c = f := by unfold okc; rw [if_neg q]
    rw [e] at bad good
    have hN' := hN.sep hlt (by rw [gm]; simpa using q)
    obtain ⟨g1, g2, -, -⟩ := grp_sep k hlt (by rw [gm]; simpa using q)
    by_cases q3 : c = f
    · subst q3
      by_cases q1 : (48 : Int) ≤ (c.toNat : Int) <;> by_cases q2 : (c.toNat : Int) ≤ 57 <;> simp -dsimp [i29, i1, hlt', gf, gf', gc, gc', q1, q2, q', fillA]
      all_goals
        refine app_accW (l' := [(0 : Int)]) ac rfl rfl (by simp; omega) (by simp; omega) fun v2 h2 nx2 rd wr d1 d2 d3 d4 d5 => ?_
        simp -dsimp [i29, hw]
        refine ⟨hlt, by simp -dsimp, by simp -dsimp [i0], by simp -dsimp [i1], ⟨l ++ [0], hN', ?_⟩, good rfl⟩
        simp -dsimp
        exact d1
    · have q3' : ¬ (c.toNat : Int) = (f.toNat : Int) := fun w => q3 (u8_inj.1 w)
      have hbad := bad q3
      by_cases q1 : (48 : Int) ≤ (c.toNat : Int) <;> by_cases q2 : (c.toNat : Int) ≤ 57 <;> simp -dsimp [i29, i1, hlt', gf, gf', gc, gc', q1, q2, q', q3'] <;> exact .inr ⟨rfl, hbad, by simp -dsimp, by simp -dsimp⟩
end Go.Proofs.P4

