/- The reference's walk: its small functions, and how it waits. -/
import Derived.Test.YtaegjihmpgdfcaaP6o
set_option linter.unusedVariables false
set_option linter.unusedSimpArgs false
set_option maxRecDepth 10000
set_option maxHeartbeats 8000000
namespace Go.Proofs.P6
open Go.Ex
/-- The walk's cells. -/
def C2 (p : List Prc) (f : List Fact) (pv dv : V) (now done all : Int) : List V := [.ro p.length (fl procCd p), pv, .ro f.length (fl factCd f), .int .i64 now, .int .i64 done, .int .i64 all, dv]
attribute [-simp] V.cells V.storable
section
variable {p : List Prc} {f : List Fact} {until' : Int} {h : Hp} {nx rid : Nat} {a : List Place} {x : Place} {now done all : Int} {did : List Did} {pv dv : V} {id ver off : Nat} {cells : List V}
def ToQ (p : List Prc) (f : List Fact) (h : Hp) (nx rid : Nat) (a : List Place) (x : Place) (now done all : Int) (did : List Did) (pv dv : V) (id ver off : Nat) (cells : List V) (t : Int) (h' : Hp) (nx' : Nat) : Prop :=
  nx' = nx ∧ (∀ j, j ≠ rid → h' j = h j) ∧ Rn (C2 p f) h' nx rid a x (if now < t then t else now) (if now < t then 0 else done) all did pv dv id ver off cells
theorem to_ok (hR : Rn (C2 p f) h nx rid a x now done all did pv dv id ver off cells) (t : Int) :
    SEx Try.prog 125 [.pt rid 0 0, .int .i64 t] h nx (fun v h' nx' => ToQ p f h nx rid a x now done all did pv dv id ver off cells t h' nx') := by
  have r := hR.r
  simp only [C2] at r
  refine SEx.of hm h125 (of_decide_eq_true rfl) ?_
  unfold c125
  simp -dsimp [r]
  refine condK_of ?_ ?_ <;> intro q <;> simp -dsimp [q, r]
  · simp at q
    refine ⟨rfl, fun j hj => by simp [hj], ?_⟩
    rw [if_pos q, if_pos q]
    exact hR.fr (Nat.le_refl _) (by simp [C2]) (fun j hj hne => by simp [hne])
  · simp at q
    refine ⟨rfl, fun _ _ => rfl, ?_⟩
    rw [if_neg (by omega), if_neg (by omega)]
    exact hR
def firstI (l : List Span) (n : Int) : Int := if (since l n).2 = true then (since l n).1 else -1
theorem firstW_ok (hR : Rn (C2 p f) h nx rid a x now done all did pv dv id ver off cells) (hF : factsE f = 0) (s : List UInt8) :
    SEx Try.prog 126 [.pt rid 0 0, .str s] h nx (fun v h' nx' => v = .int .i64 (firstI (spansOf f s) now) ∧ h' = h ∧ nx' = nx) := by
  have e62 := Go.Ex.e62
  have hfl := (facts_small hF).1
  have hsl := (spansOf_small hF s).1
  have r := hR.r
  simp only [C2] at r
  generalize hl : spansOf f s = l at hsl
  refine SEx.of hm h126 (of_decide_eq_true rfl) ?_
  unfold c126
  simp -dsimp [r]
  refine call_one (spansRef_ok f s (by omega)) (okRes_of (by simp)) ?_
  rw [hl]
  simp -dsimp
  refine loop_to 6 l.length (fun k t => t.t 6 = .int .i64 k ∧ t.t 5 = .ro l.length (fl spanCd l) ∧ t.t 0 = .pt rid 0 0 ∧ t.h = h ∧ t.nx = nx ∧ Not' (fun s => decide (now < s.2)) l k) (fun k t h => h.1) (by simp -dsimp [Not'.zero]) (fun k t hk hI => ?_)
  obtain ⟨i6, i5, i0, ih, inx, iu⟩ := hI
  by_cases hlt : k < l.length
  · have hlt' : (k : Int) < (l.length : Int) := by omega
    have hw : IntKind.i64.wrap ((k : Int) + 1) = (k : Int) + 1 := IntWalk.i64_in _ (by omega)
    have hg : l[k]? = some l[k] := List.getElem?_eq_getElem hlt
    generalize l[k] = y at hg
    unfold l126_0
    simp -dsimp [i6, i5, i0, ih, inx, hlt', span_ia hg, span_l1 hg, r]
    refine condK_of ?_ ?_ <;> intro q <;> simp -dsimp [q, i6, i5, i0, ih, inx, hw, span_ia hg, span_l0 hg, r]
    · have : since l now = (max now y.1, true) := by unfold since; rw [find_stop iu hg q]
      simp [firstI, this]
    · exact ⟨by omega, iu.succ hg q⟩
  · have hkl : k = l.length := by omega
    subst hkl
    have : since l now = (0, false) := by unfold since; rw [find_none iu]
    unfold l126_0
    simp -dsimp [i6, i5, i0, ih, inx, firstI, this]
theorem waitedRef_ok (hR : Rn (C2 p f) h nx rid a x now done all did pv dv id ver off cells) (hp : p.length < 2 ^ 62) (hF : factsE f = 0) (hx : PF p x) (hl : (stepsOf p x.1).length ≤ 200) (hnow : 0 ≤ now ∧ now ≤ until') (s : Step) (hk : s.1 = 2 ∨ s.1 = 3) (h0 : 0 ≤ x.2.2) :
    SEx Try.prog 74 [.pt rid 0 0, .pt id ver off, .agg (stepV s), .int .i64 until'] h nx (ResQ (C2 p f) nx rid (waited f until' ⟨a ++ [x], now, done, all, did⟩ a x (stepsOf p x.1) s)) := by
  have e62 := Go.Ex.e62
  have hst := hx.st
  have hws : IntKind.i64.wrap (x.2.1 + 1) = x.2.1 + 1 := IntWalk.i64_in _ (by omega)
  have hltr := hR.lt
  have hlti := hR.tp.lt
  generalize hh : upd h nx (some ⟨0, 0, stepV s, none⟩) = h1
  have hfr : ∀ j, j < nx → h1 j = h j := fun j hj => by rw [← hh]; simp [upd]; omega
  have hs1 : h1 nx = some ⟨0, 0, stepV s, none⟩ := by rw [← hh]; simp
  have hR1 := hR.mono (Nat.le_succ nx) hfr
  have r1 := hR1.r
  have hb1 := hR1.tp.hb
  obtain ⟨g0, g1, g2, g3⟩ := hR1.tp.get
  simp only [C2] at r1
  have nr : nx ≠ rid := by omega
  have ni : nx ≠ id := by omega
  simp only [stepV] at hs1
  have hge : (since (spansOf f s.2.1) now).2 = true → now ≤ (since (spansOf f s.2.1) now).1 := since_ge
  have e3 : off + 1 + 1 ≤ cells.length := by omega
  have e4 : off + 2 + 1 ≤ cells.length := by omega
  -- the top goes on
  have fin : ∀ {y : Place} {nw dn : Int} {h2 : Hp} {k : Int}, Rn (C2 p f) h2 (nx + 1) rid a x nw dn all did pv dv id ver off cells → waited f until' ⟨a ++ [x], now, done, all, did⟩ a x (stepsOf p x.1) s = .go ⟨a ++ [(x.1, k, -1)], nw, dn, all, did⟩ →
      ResQ (C2 p f) nx rid (waited f until' ⟨a ++ [x], now, done, all, did⟩ a x (stepsOf p x.1) s) (.bool true) (upd (upd h2 id (some ⟨ver, 3, cells.set (off + 1) (.int .i64 k), none⟩)) id (some ⟨ver, 3, (cells.set (off + 1) (.int .i64 k)).set (off + 2) (.int .i64 (-1)), none⟩)) (nx + 1) := by
    intro y nw dn h2 k hq e
    have hT1 := hq.tp.set (y := (x.1, k, x.2.2)) (j := 1) (u := .int .i64 k) (by omega) rfl
    have hT2 := hT1.set (y := (x.1, k, -1)) (j := 2) (u := .int .i64 (-1)) (by omega) rfl
    have hR2 := hq.up hT2 (Nat.le_refl _) (fun j hj hne => by simp [hne])
    rw [e]
    exact ⟨Nat.le_succ nx, rfl, hR2.close⟩
  have stop : waited f until' ⟨a ++ [x], now, done, all, did⟩ a x (stepsOf p x.1) s = .stop ⟨a ++ [x], now, done, all, did⟩ → ResQ (C2 p f) nx rid (waited f until' ⟨a ++ [x], now, done, all, did⟩ a x (stepsOf p x.1) s) (.bool false) h1 (nx + 1) := by
    intro e
    rw [e]
    exact ⟨Nat.le_succ nx, rfl, hR1.close⟩
  refine SEx.of hm h74 (of_decide_eq_true rfl) ?_
  unfold c74
  simp -dsimp [stepV]
  have hh' : upd h nx (some ⟨0, 0, [.int .i64 s.1, .str s.2.1, .str s.2.2.1, .int .i64 s.2.2.2.1, .bool s.2.2.2.2], none⟩) = h1 := hh
  rw [hh']
  by_cases k2 : s.1 = 2
  · have k3 : ¬ s.1 = 3 := by omega
    simp -dsimp [k2, hb1, g2]
    by_cases u : until' < x.2.2
    · simp -dsimp [u]
      exact stop (waited_rest_stop (fun q1 q2 q3 => k3 q1) u)
    · simp -dsimp [u, hb1, g2]
      refine shr_ex (to_ok hR1 _) ?_
      rintro v h' nx' ⟨rfl, q3, q4⟩
      have hb2 := q4.tp.hb
      simp -dsimp [hb2, g1, hws, putL, e3, e4]
      refine fin (y := x) q4 ?_
      rw [waited_rest (fun q1 q2 q3 => k3 q1) (by omega), if_neg k3]
  have k3 : s.1 = 3 := by omega
  simp -dsimp [k3, hs1]
  refine shr_ex (firstW_ok hR1 hF s.2.1) ?_
  rintro v h' nx' ⟨rfl, rfl, rfl⟩
  have rest : ∀ (q : ¬ ((since (spansOf f s.2.1) now).2 = true ∧ (since (spansOf f s.2.1) now).1 ≤ x.2.2)), s.1 = 3 → (since (spansOf f s.2.1) now).2 = true → (since (spansOf f s.2.1) now).1 ≤ x.2.2 → False := fun q _ q1 q2 => q ⟨q1, q2⟩
  obtain ⟨pr, hpr, hpn, hpo⟩ := stepsOf_get hx.pr
  have hia : ∀ h K, iaddrK h (.ro p.length (fl procCd p)) (.int .i64 (prI p x.1)) 2 K ⟨⟩ = K (.rp (fl procCd p) ((prI p x.1).toNat * 2)) [] := fun h K => by
    have := proc_ia (h := h) (kk := .i64) (K := K) hpr
    rw [show ((prI p x.1).toNat : Int) = prI p x.1 by have := hx.pr; omega] at this
    exact this
  have hlb := labI_lt (stepsOf p x.1) s.2.2.1
  have hwl : IntKind.i64.wrap (labI (stepsOf p x.1) s.2.2.1 + 1) = labI (stepsOf p x.1) s.2.2.1 + 1 := IntWalk.i64_in _ (by
    rcases ixI_cases (isLab s.2.2.1) (stepsOf p x.1) with ⟨h1, _⟩ | ⟨k, _, h1, _⟩ <;> unfold labI at * <;> omega)
  by_cases A : (since (spansOf f s.2.1) now).2 = true ∧ (since (spansOf f s.2.1) now).1 ≤ x.2.2
  · have hfi : firstI (spansOf f s.2.1) now = (since (spansOf f s.2.1) now).1 := by unfold firstI; rw [if_pos A.1]
    have hge0 : 0 ≤ (since (spansOf f s.2.1) now).1 := by have := hge A.1; omega
    simp -dsimp [hb1, g2, hfi, hge0, A.2]
    by_cases u : until' < (since (spansOf f s.2.1) now).1
    · simp -dsimp [u]
      exact stop (waited_fact_stop k3 A.1 A.2 u)
    · simp -dsimp [u]
      refine shr_ex (to_ok hR1 _) ?_
      rintro v h' nx' ⟨rfl, q3, q4⟩
      have hb2 := q4.tp.hb
      simp -dsimp [hb2, g1, hws, putL, e3, e4]
      exact fin (y := x) q4 (waited_fact k3 A.1 A.2 (by omega))
  · have hfi : (0 ≤ firstI (spansOf f s.2.1) now → ¬ firstI (spansOf f s.2.1) now ≤ x.2.2) := by
      unfold firstI
      split
      · rename_i q; exact fun _ q2 => A ⟨q, q2⟩
      · intro q; omega
    simp -dsimp
    refine wantT_of ?_ ?_ <;> intro q <;> simp -dsimp [q, hb1, g2]
    all_goals (try have hfi' := hfi (by simpa using q))
    all_goals (try simp -dsimp [hfi', hb1, g2])
    all_goals
      by_cases u : until' < x.2.2
      · simp -dsimp [u, hb1, g2]
        exact stop (waited_rest_stop (rest A) u)
      · simp -dsimp [u, hb1, g2]
        refine shr_ex (to_ok hR1 _) ?_
        rintro v h' nx' ⟨rfl, q3, q4⟩
        have hb2 := q4.tp.hb
        have r2 := q4.r
        have hs2 := q3 nx nr
        rw [hs1] at hs2
        simp only [C2] at r2
        simp -dsimp [hb2, g0, r2]
        refine call_int (procOf_ok p x.1 hp) ?_
        simp -dsimp [hia, proc_ld hpr, hs2]
        refine call_int (labelOf_ok pr.1 pr.2 s.2.2.1 (by rw [← hpo]; omega)) ?_
        have hwl' : IntKind.i64.wrap (ixI (isLab s.2.2.1) pr.2 + 1) = labI (stepsOf p x.1) s.2.2.1 + 1 := by rw [← hpo]; exact hwl
        simp -dsimp [hb2, hwl', putL, e3, e4]
        refine fin (y := x) q4 ?_
        rw [waited_rest (rest A) (by omega), if_pos k3]
end
end Go.Proofs.P6
