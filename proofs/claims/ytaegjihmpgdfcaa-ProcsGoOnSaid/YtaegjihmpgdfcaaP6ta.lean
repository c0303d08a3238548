/- The reference's walk does a step. -/
import Derived.Test.YtaegjihmpgdfcaaP6t
set_option linter.unusedVariables false
set_option linter.unusedSimpArgs false
set_option maxRecDepth 10000
set_option maxHeartbeats 16000000
namespace Go.Proofs.P6
open Go.Ex
attribute [-simp] V.cells V.storable
@[simp] theorem st_ns : V.ns.storable = true := rfl
theorem rd_ro_str {α : Type} {d : Cd α} {l : List α} {n : Nat} {s : List UInt8} : rdOf [.ro n (fl d l), .str s] = some [] := by
  have : noRef (.ro n (fl d l)) = true := fl_pure l
  simp [rdOf, this, noRef, V.pure]
theorem disj0 {q : Option (List Nat)} : disj (some []) q = true := by
  unfold disj; rfl
theorem id_rp {cs : List V} {o : Nat} : idOf (.rp cs o) = [] := rfl
section
variable {p : List Prc} {f : List Fact} {until' : Int} {h : Hp} {nx rid : Nat} {a : List Place} {x : Place} {now done all : Int} {did : List Did} {pv dv : V} {id ver off : Nat} {cells : List V}
def ActQ (p : List Prc) (f : List Fact) (nx rid : Nat) (m : M) (h' : Hp) (nx' : Nat) : Prop := nx ≤ nx' ∧ Rs (C2 p f) h' nx' rid m
theorem stepRef_ok (hR : Rn (C2 p f) h nx rid a x now done all did pv dv id ver off cells) (hg : GP p) (hF : factsE f = 0) (hx : PF p x) (hu : x.2.2 = -1) (hnow : 0 ≤ now ∧ now ≤ 1000000000000) (hdid : did.length ≤ 5000) (hlen : a.length < 1000000) {s : Step} (hgs : (stepsOf p x.1)[x.2.1.toNat]? = some s) :
    SEx Try.prog 75 [.pt rid 0 0, .pt id ver off, .agg (stepV s)] h nx (fun v h' nx' => ActQ p f nx rid (act f ⟨a ++ [x], now, done, all, did⟩ a x (stepsOf p x.1) s) h' nx') := by
  have e62 := Go.Ex.e62
  have e47 := Go.Ex.e47
  have hp : p.length < 2 ^ 62 := by have := hg.len; omega
  have hl := hg.steps_le x.1
  have hst := hx.st
  have hlt := (List.getElem?_eq_some_iff.1 hgs).1
  have hws : IntKind.i64.wrap (x.2.1 + 1) = x.2.1 + 1 := IntWalk.i64_in _ (by omega)
  have hltr := hR.lt
  have hlti := hR.tp.lt
  have hsf := hg.sf hx.pr (List.mem_of_getElem? hgs)
  obtain ⟨pr, hpr, hpn, hpo⟩ := stepsOf_get hx.pr
  have hia : ∀ h K, iaddrK h (.ro p.length (fl procCd p)) (.int .i64 (prI p x.1)) 2 K ⟨⟩ = K (.rp (fl procCd p) ((prI p x.1).toNat * 2)) [] := fun h K => by
    have := proc_ia (h := h) (kk := .i64) (K := K) hpr
    rw [show ((prI p x.1).toNat : Int) = prI p x.1 by have := hx.pr; omega] at this
    exact this
  have hlb := labI_lt (stepsOf p x.1) s.2.2.1
  have hwl : IntKind.i64.wrap (labI (stepsOf p x.1) s.2.2.1 + 1) = labI (stepsOf p x.1) s.2.2.1 + 1 := IntWalk.i64_in _ (by
    rcases ixI_cases (isLab s.2.2.1) (stepsOf p x.1) with ⟨h1, _⟩ | ⟨k, _, h1, _⟩ <;> unfold labI at * <;> omega)
  have r := hR.r
  have hb := hR.tp.hb
  obtain ⟨g0, g1, g2, g3⟩ := hR.tp.get
  simp only [C2] at r
  have nr : ¬ rid = nx := by omega
  have ni : ¬ id = nx := by omega
  have nr1 : ¬ rid = nx + 1 := by omega
  have ni1 : ¬ id = nx + 1 := by omega
  have nn : ¬ nx = nx + 1 := by omega
  refine SEx.of hm h75 (of_decide_eq_true rfl) ?_
  unfold c75
  simp -dsimp [stepV, r, nr, hb, ni, g0]
  refine call_int (procOf_ok p x.1 hp) ?_
  simp -dsimp [hia, proc_ld hpr, nr1, ni1, nn, disj1, id_pt, disj0, id_rp, rd_ro_str]
  generalize hh : upd (upd (upd h nx _) (nx + 1) _) (nx + 1) _ = h1
  have hs1 : h1 nx = some ⟨0, 0, [.int .i64 s.1, .str s.2.1, .str s.2.2.1, .int .i64 s.2.2.2.1, .bool s.2.2.2.2], none⟩ := by rw [← hh]; simp [nn]
  have ho1 : h1 (nx + 1) = some ⟨0, 0, [.str pr.1, .ro pr.2.length (fl stepCd pr.2)], none⟩ := by rw [← hh]; simp
  have hfr : ∀ j, j < nx → h1 j = h j := fun j hj => by rw [← hh]; simp [show ¬ j = nx by omega, show ¬ j = nx + 1 by omega]
  have hR1 := hR.mono (nx' := nx + 2) (by omega) hfr
  have r1 := hR1.r
  have hb1 := hR1.tp.hb
  simp only [C2] at r1
  have e3 : off + 1 + 1 ≤ cells.length := by omega
  have e4 : off + 2 + 1 ≤ cells.length := by omega
  have nxi : ¬ nx = id := by omega
  have nxr : ¬ nx = rid := by omega
  have n1 : ¬ id = rid := hR.n1
  have hxe : x = (x.1, x.2.1, -1) := by rw [← hu]
  have hR1x : Rn (C2 p f) h1 (nx + 2) rid a (x.1, x.2.1, -1) now done all did pv dv id ver off cells := by
    have : ∀ y, y = x → Rn (C2 p f) h1 (nx + 2) rid a y now done all did pv dv id ver off cells := fun y e => by rw [e]; exact hR1
    exact this _ hxe.symm
  have inc : ∀ {k : Int} {h2 : Hp} {nx2 : Nat} {did' : List Did} {dv' : V} {cells2 : List V} (k' : Int), Rn (C2 p f) h2 nx2 rid a (x.1, k, -1) now done all did' pv dv' id ver off cells2 →
      Rn (C2 p f) (upd h2 id (some ⟨ver, 3, cells2.set (off + 1) (.int .i64 k'), none⟩)) nx2 rid a (x.1, k', -1) now done all did' pv dv' id ver off (cells2.set (off + 1) (.int .i64 k')) := by
    intro k h2 nx2 did' dv' cells2 k' hq
    exact hq.up (hq.tp.set (y := (x.1, k', -1)) (j := 1) (u := .int .i64 k') (by omega) rfl) (Nat.le_refl _) (fun j hj hne => by simp [hne])
  have fin : ∀ {y : Place} {h' : Hp} {nx' : Nat} {did' : List Did} {dv' : V} {cells' : List V}, act f ⟨a ++ [x], now, done, all, did⟩ a x (stepsOf p x.1) s = ⟨a ++ [y], now, done, all, did'⟩ → nx ≤ nx' →
      Rn (C2 p f) h' nx' rid a y now done all did' pv dv' id ver off cells' → ActQ p f nx rid (act f ⟨a ++ [x], now, done, all, did⟩ a x (stepsOf p x.1) s) h' nx' := by
    intro y h' nx' did' dv' cells' e hn hq
    rw [e]
    exact ⟨hn, hq.close⟩
  have his : inSp (spansOf f s.2.1) now = isF f s.2.1 now := (since_in (spansOf_small hF s.2.1).2 now).symm
  have hle : nx ≤ nx + 2 := by omega
  have na1 : ¬ rid = nx + 2 := by omega
  have na2 : ¬ nx = nx + 2 := by omega
  have gset : ∀ u : V, (cells.set (off + 1) u)[off + 1]? = some u := fun u => List.getElem?_set_self (by omega)
  have hpl : pr.2.length < 2 ^ 62 := by rw [← hpo]; omega
  have hwl' : IntKind.i64.wrap (ixI (isLab s.2.2.1) pr.2 + 1) = labI (stepsOf p x.1) s.2.2.1 + 1 := by rw [← hpo]; exact hwl
  have hlab := inc (labI (stepsOf p x.1) s.2.2.1 + 1) (inc (ixI (isLab s.2.2.1) pr.2) hR1x)
  simp only [List.set_set] at hlab
  by_cases k23 : s.1 = 2 ∨ s.1 = 3
  · have hn := hsf.num k23
    have hwn : IntKind.i64.wrap (now + s.2.2.2.1) = now + s.2.2.2.1 := IntWalk.i64_in _ (by omega)
    have hT := hR1.tp.set (y := (x.1, x.2.1, now + s.2.2.2.1)) (j := 2) (u := .int .i64 (now + s.2.2.2.1)) (by omega) rfl
    have hR3 := hR1.up hT (Nat.le_refl _) (fun j hj hne => by simp [hne])
    have key := fin (y := (x.1, x.2.1, now + s.2.2.2.1)) (by unfold act; rw [if_neg (by omega), if_pos k23]; rfl) hle hR3
    by_cases k2 : s.1 = 2
    · simp -dsimp [k2, r1, hs1, hwn, hb1, e4]
      exact key
    · have k3 : s.1 = 3 := by omega
      simp -dsimp [k2, k3, r1, hs1, hwn, hb1, e4]
      exact key
  have k2 : ¬ s.1 = 2 := fun q => k23 (.inl q)
  have k3 : ¬ s.1 = 3 := fun q => k23 (.inr q)
  simp -dsimp [k2, k3]
  by_cases k1 : s.1 = 1
  · simp -dsimp [k1, r1, hs1, fillS, fillA, na1, na2, disj1, id_pt]
    generalize hh3 : upd h1 (nx + 2) _ = h3
    have hfr3 : ∀ j, j < nx + 2 → h3 j = h1 j := fun j hj => by rw [← hh3]; simp [show ¬ j = nx + 2 by omega]
    have hR3 := hR1x.mono (Nat.le_succ (nx + 2)) hfr3
    have hdn : ownOf dv ≠ some nx := fun q => by have := hR.dd.own q; omega
    refine app_acc (l' := [(now, s.2.1)]) hR3.dd (by simp [fl, didCd]; rfl) rfl (by simp only [List.length_singleton]; omega) (by simp only [List.length_singleton]; omega) ?_
    intro dv' h4 nx4 hA hnx4 hfr4 how4
    obtain ⟨hc4, hs4⟩ := acc_st hA
    have r4 : h4 rid = some ⟨0, 0, C2 p f pv dv now done all, none⟩ := by
      rw [hfr4 rid (by omega) hR3.n2]
      exact hR3.r
    simp only [C2] at r4
    have hb4 : h4 id = some ⟨ver, 3, cells, none⟩ := by
      rw [hfr4 id (by omega) hR3.n3]
      exact hR3.tp.hb
    have hs4' : h4 nx = some ⟨0, 0, [.int .i64 s.1, .str s.2.1, .str s.2.2.1, .int .i64 s.2.2.2.1, .bool s.2.2.2.2], none⟩ := by
      rw [hfr4 nx (by omega) hdn, hfr3 nx (by omega)]
      exact hs1
    simp -dsimp [r4, hc4, hs4, hb4, g1, hws, e3, nxi, nxr, n1, hs4', k1]
    have hRid : ownOf dv' ≠ some rid := fun q => by
      rcases how4 rid q with q | q
      · exact hR.n2 q
      · omega
    have hRi : ownOf dv' ≠ some id := fun q => by
      rcases how4 id q with q | q
      · exact hR.n3 q
      · omega
    generalize hh5 : upd h4 rid _ = h5
    have hfr5 : ∀ j, j ≠ rid → h5 j = h4 j := fun j hj => by rw [← hh5]; simp [hj]
    have hR5 : Rn (C2 p f) h5 nx4 rid a (x.1, x.2.1, -1) now done all (did ++ [(now, s.2.1)]) pv dv' id ver off cells :=
      ⟨by rw [← hh5]; simp [C2], by omega, hR3.tp.mono hnx4 (by rw [hfr5 id n1, hfr4 id (by omega) hR3.n3]), hA.keep (Nat.le_refl _) (fun j _ hj => hfr5 j fun q => hRid (by rw [hj, q])), n1, hRid, hRi⟩
    exact fin (by unfold act; rw [if_pos k1]) (by omega) (inc _ hR5)
  simp -dsimp [k1]
  by_cases k4 : s.1 = 4
  · have hfl : f.length < 2 ^ 62 := by have := (facts_small hF).1; omega
    have hsl : (spansOf f s.2.1).length < 2 ^ 62 := by have := (spansOf_small hF s.2.1).1; omega
    simp -dsimp [k4, r1, hs1]
    refine call_bool (isRef_ok f s.2.1 now hfl hsl) ?_
    simp -dsimp [hs1, his]
    by_cases b : isF f s.2.1 now = s.2.2.2.2
    · simp -dsimp [b, hb1, g1, hws, e3, hs1, nxi, k4]
      exact fin (by unfold act; rw [if_neg k1, if_neg k23, if_pos k4, if_neg (by simp [b])]; rfl) hle (inc _ hR1x)
    · simp -dsimp [b, hs1, ho1]
      refine call_int (labelOf_ok pr.1 pr.2 s.2.2.1 hpl) ?_
      simp -dsimp [hb1, e3, hs1, nxi, hwl', k4, gset]
      exact fin (by unfold act; rw [if_neg k1, if_neg k23, if_pos k4, if_pos (by simp [b])]; rfl) hle hlab
  simp -dsimp [k4]
  by_cases k5 : s.1 = 5
  · simp -dsimp [k5, hs1, ho1]
    refine call_int (labelOf_ok pr.1 pr.2 s.2.2.1 hpl) ?_
    simp -dsimp [hb1, e3, hs1, nxi, hwl', k5, gset]
    exact fin (by unfold act; rw [if_neg k1, if_neg k23, if_neg k4, if_pos k5]; rfl) hle hlab
  simp -dsimp [k5]
  by_cases k7 : s.1 = 7
  · have hwp : IntKind.i64.wrap ((pr.2.length : Int) - 1) = (pr.2.length : Int) - 1 := IntWalk.i64_in _ (by rw [← hpo]; omega)
    have hwp2 : IntKind.i64.wrap (pr.2.length : Int) = (pr.2.length : Int) := IntWalk.i64_in _ (by rw [← hpo]; omega)
    have hend := inc ((pr.2.length : Int)) (inc ((pr.2.length : Int) - 1) hR1x)
    simp -dsimp [k7, hs1, ho1, hb1, e3, nxi, hwp, hwp2, gset]
    simp only [List.set_set] at hend
    exact fin (by unfold act; rw [if_neg k1, if_neg k23, if_neg k4, if_neg k5, if_neg (by omega), if_neg (by omega), hpo]; rfl) hle hend
  simp -dsimp [k7, hb1, g1, hws, e3, hs1, nxi]
  by_cases k6 : s.1 = 6
  · have hR2 := inc (x.2.1 + 1) hR1x
    generalize hh2 : upd h1 id _ = h2 at hR2
    simp -dsimp [k6]
    have r2 := hR2.r
    simp only [C2] at r2
    have hs2 : h2 nx = some ⟨0, 0, [.int .i64 s.1, .str s.2.1, .str s.2.2.1, .int .i64 s.2.2.2.1, .bool s.2.2.2.2], none⟩ := by
      rw [← hh2]
      simp only [upd, if_neg nxi]
      exact hs1
    simp -dsimp [r2, hs2, fillS, fillA, na1, na2, disj1, id_pt]
    generalize hh4 : upd h2 (nx + 2) _ = h4
    have hfr4 : ∀ j, j < nx + 2 → h4 j = h2 j := fun j hj => by rw [← hh4]; simp [show ¬ j = nx + 2 by omega]
    have hR4 := hR2.mono (Nat.le_succ (nx + 2)) hfr4
    refine app_acc (l' := [(s.2.1, 0, -1)]) hR4.tp.acc (by simp [fl, placeCd]; rfl) rfl (by simp only [List.length_singleton, List.length_append]; omega) (by simp only [List.length_singleton, List.length_append]; omega) ?_
    intro pv5 h5 nx5 hA hnx5 hfr5 how5
    obtain ⟨hc5, hs5⟩ := acc_st hA
    have op : ownOf pv = some id := hR.tp.own
    have r5 : h5 rid = some ⟨0, 0, C2 p f pv dv now done all, none⟩ := by
      rw [hfr5 rid (by omega) (by rw [op]; intro q; injection q with q; exact n1 q)]
      exact hR4.r
    simp only [C2] at r5
    simp -dsimp [r5, hc5, hs5]
    have hact : act f ⟨a ++ [x], now, done, all, did⟩ a x (stepsOf p x.1) s = ⟨a ++ [(x.1, x.2.1 + 1, -1)] ++ [(s.2.1, 0, -1)], now, done, all, did⟩ := by
      unfold act
      rw [if_neg k1, if_neg k23, if_neg k4, if_neg k5, if_neg (by omega), if_pos k6]
    rw [hact]
    have op5 : ∀ j, ownOf pv5 = some j → j = id ∨ nx + 3 ≤ j := fun j hj => by
      rcases how5 j hj with q | q
      · rw [op] at q; injection q with q; exact .inl q.symm
      · exact .inr q
    refine ⟨by omega, pv5, dv, by simp [C2], by omega, hA.keep (Nat.le_refl _) (fun j _ hj => ?_), hR4.dd.keep hnx5 (fun j hj ho => ?_), fun q => ?_, hR.n2, fun j hj => ?_⟩
    · have : ¬ j = rid := fun q => by rcases op5 j hj with z | z <;> omega
      simp [this]
    · have h1 : ¬ j = rid := fun q => hR.n2 (by rw [ho, q])
      simp only [upd, if_neg h1]
      exact hfr5 j hj (by rw [op]; intro q; injection q with q; exact hR.n3 (by rw [ho, q]))
    · rcases op5 rid q with z | z <;> omega
    · rcases op5 j hj with z | z
      · rw [z]; exact hR.n3
      · intro q
        have := hR.dd.own q
        omega
  have k8 : s.1 = 8 := by have := hsf.kind; omega
  simp -dsimp [k6]
  exact fin (by unfold act; rw [if_neg k1, if_neg k23, if_neg k4, if_neg k5, if_pos k8]; rfl) hle (inc _ hR1x)
end
end Go.Proofs.P6
