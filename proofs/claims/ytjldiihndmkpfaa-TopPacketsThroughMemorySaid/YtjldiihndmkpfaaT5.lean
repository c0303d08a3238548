/- Banks that are gone through and read. -/
import Derived.Test.YtjldiihndmkpfaaT4
import Derived.Test.YtjldiihndmkpfaaP3n
set_option linter.unusedVariables false
set_option linter.unusedSimpArgs false
set_option maxRecDepth 10000
set_option maxHeartbeats 8000000
namespace Go.Proofs.P3
open Go.Ex
theorem place_ok {b : Bank} (hb : BankOk b) {i : Nat} (hi : i < b.1.length) : OkF Try.prog 106 [bkV b, .int .i64 i] (.int .i64 0, []) := by
  refine OkF.W0 hm h106 (of_decide_eq_true rfl) ?_
  unfold c106
  have k1 := CheckBank_ok b
  rw [bank_mk hb] at k1
  have hm := hb.most
  obtain ⟨c, s⟩ := b
  simp only at hm hi
  have hin : inB (i : Int) 0 ((c.length : Int) - 1) = true := by simp [inB]; omega
  have w1 : IntKind.i64.wrap ((c.length : Int) - 1) = (c.length : Int) - 1 := w_i64 (by omega) (by omega)
  simp -dsimp
  refine call_pure k1 (by simp) rfl ?_
  simp -dsimp [w1]
  refine call_bool (In_ok _ _ _) ?_
  simp -dsimp [hin]
theorem ReadAt_ok {b : Bank} (hb : BankOk b) {i : Nat} (hi : i < b.1.length) : OkF Try.prog 60 [bkV b, .int .i64 i] (.tup [.int .i64 (decE (lAt b.1 i)).1, .int .i64 (decE (lAt b.1 i)).2.1, .int .i64 (decE (lAt b.1 i)).2.2], []) := by
  refine OkF.W0 hm h60 (of_decide_eq_true rfl) ?_
  unfold c60
  have k1 := place_ok hb hi
  have k2 := Decoded_ok (lAt b.1 i)
  have hg := get_lAt hi
  obtain ⟨c, s⟩ := b
  simp only at hg k2 ⊢
  generalize lAt c i = x at *
  generalize decE x = r at *
  obtain ⟨r1, r2, r3⟩ := r
  simp only at k2
  simp -dsimp
  refine call_pure k1 (by simp) rfl ?_
  simp -dsimp [i_ia hg, i_ld hg]
  refine call_pure k2 (by simp) (by simp) ?_
  simp -dsimp
theorem toRO2z {h : Hp} {id : Nat} {x y : Int} : toRO (upd h id (some ⟨0, 1, [.int .i64 x, .int .i64 y], none⟩)) 8 (.sl id 0 0 2 (some 2)) = some (rI [x, y]) := by
  simp [toRO, cellRO, upd, fl]
theorem rf_ic : ∀ l : List Int, roFreeL (fl ic l) = true
  | [] => rfl
  | a :: l => by
    show roFreeL (V.int .i64 a :: fl ic l) = true
    simp [roFreeL, roFree, rf_ic l]
def ScrR (h : Hp) (nx : Nat) (c s : List Int) (v : V) (h' : Hp) (nx' : Nat) : Prop := ∃ w1 w2 o, v = .tup [.agg [w1, w2], o, .int .i64 0] ∧ Acc ic h' nx' w1 c ∧ Acc ic h' nx' w2 s ∧ nx ≤ nx' ∧ ∀ j, j < nx → h' j = h j
theorem Scrubbed_ex {h : Hp} {nx : Nat} {v1 v2 : V} {c s : List Int} (a1 : Acc ic h nx v1 c) (a2 : Acc ic h nx v2 s) (hb : BankOk (c, s)) {many : Nat} (hm5 : many ≤ 5000) :
    SEx Try.prog 59 [.agg [v1, v2], .int .i64 0, .int .i64 many] h nx (ScrR h nx (scr 0 0 c many).2 s) := by
  refine SEx.ofG hm h59 (of_decide_eq_true rfl) ?_
  unfold c59
  have k1 : OkF Try.prog 106 [bkV (c, s), .int .i64 0] (.int .i64 0, []) := place_ok (i := 0) hb hb.pos
  have k2 := Range_ok (many : Int) 0 5000
  have e2 : rngE (many : Int) 0 5000 = 0 := by unfold rngE; rw [if_neg (by simp [inB]; omega)]
  rw [e2] at k2
  have hf := First_ok [0, 0] (by simp)
  have hF : firstE [0, 0] = 0 := rfl
  rw [hF] at hf
  have hcp := copied_ok (c, s) hb
  have hpos := hb.pos
  have hmost := hb.most
  have hlen := hb.len
  have hc := hb.c
  simp only at hpos hmost hlen hc
  have hsl := scr_len 0 0 c many
  obtain ⟨s1, s2⟩ := acc_st a1
  obtain ⟨s3, s4⟩ := acc_st a2
  have hro : ∀ g : Hp, (∀ j, j < nx → g j = h j) → toRO g 8 (.agg [v1, v2]) = some (bkV (c, s)) := fun g hg => toRO_agg2 (a1.mono (Nat.le_refl _) hg) (a2.mono (Nat.le_refl _) hg)
  have hc12 : (V.agg [v1, v2]).cells = [v1, v2] := rfl
  have r1 := hro (upd (upd h nx (some ⟨0, 0, [v1, v2], none⟩)) (nx + 1) (some ⟨0, 0, [.ns, .ns], none⟩)) (fun j hj => by simp only [upd]; rw [if_neg (by omega), if_neg (by omega)])
  have r2 := hro (upd (upd (upd h nx (some ⟨0, 0, [v1, v2], none⟩)) (nx + 1) (some ⟨0, 0, [.ns, .ns], none⟩)) (nx + 2) (some ⟨0, 1, [.int .i64 0, .int .i64 0], none⟩)) (fun j hj => by simp only [upd]; rw [if_neg (by omega), if_neg (by omega), if_neg (by omega)])
  have n01 : ¬ nx = nx + 1 := by omega
  have n02 : ¬ nx = nx + 2 := by omega
  have n03 : ¬ nx = nx + 3 := by omega
  have n04 : ¬ nx = nx + 4 := by omega
  simp -dsimp [hc12, r1, n01]
  refine call_int k1 ?_
  simp -dsimp
  refine call_int k2 ?_
  simp -dsimp [fillA, toRO2z]
  refine call_int hf ?_
  simp -dsimp [n01, n02, r2]
  refine call_own hcp (by simp [okRes, cpR, roFree, roFreeL, rf_ic]) ?_
  have m3 : ¬ nx = nx + 1 + 1 + 1 := by omega
  have m4 : ¬ nx = nx + 1 + 1 + 1 + 1 := by omega
  have m2 : ¬ nx = nx + 1 + 1 := by omega
  simp -dsimp [cpR, addB, m2, m3, m4]
  generalize hG : (upd _ nx (some ⟨0, 0, [.sl (nx + 3) 0 0 c.length none, .sl (nx + 1 + 1 + 1 + 1) 0 0 s.length none], none⟩) : Hp) = G
  have g0 : G nx = some ⟨0, 0, [.sl (nx + 3) 0 0 c.length none, .sl (nx + 1 + 1 + 1 + 1) 0 0 s.length none], none⟩ := by rw [← hG]; simp only [upd]; rw [if_pos (by first | trivial | omega)]
  have g4 : G (nx + 1 + 1 + 1 + 1) = some ⟨0, 1, fl ic s, none⟩ := by rw [← hG]; simp only [upd]; rw [if_neg (by omega), if_pos (by first | trivial | omega)]
  have g3 : G (nx + 3) = some ⟨0, 1, fl ic c, none⟩ := by rw [← hG]; simp only [upd]; rw [if_neg (by omega), if_neg (by omega), if_pos (by first | trivial | omega)]
  have g1 : G (nx + 1) = some ⟨0, 0, [.ns, .ns], none⟩ := by rw [← hG]; simp only [upd]; rw [if_neg (by omega), if_neg (by omega), if_neg (by omega), if_neg (by omega), if_pos (by first | trivial | omega)]
  have gold : ∀ j, j < nx → G j = h j := fun j hj => by rw [← hG]; simp only [upd]; rw [if_neg (by omega), if_neg (by omega), if_neg (by omega), if_neg (by omega), if_neg (by omega), if_neg (by omega)]
  clear hG hro r1 r2
  have hsx : SEx Try.prog 107 [.agg [.sl (nx + 3) 0 0 c.length none, .sl (nx + 1 + 1 + 1 + 1) 0 0 s.length none], .int .i64 0, .int .i64 many, .int .i64 0] G (nx + 1 + 1 + 1 + 2) (ScrQ G (nx + 1 + 1 + 1 + 2) (nx + 3) 0 (scr 0 0 c many).1 (scr 0 0 c many).2) := scrub_ex (frm := 0) (by omega) g3 hpos hmost hc (by decide) hm5
  refine shr_ex hsx ?_
  rintro v h' nx' ⟨b1, b2, b3, b4, b5⟩
  have p0 : h' nx = some ⟨0, 0, [.sl (nx + 3) 0 0 c.length none, .sl (nx + 1 + 1 + 1 + 1) 0 0 s.length none], none⟩ := by rw [b5 nx (by omega) (by omega), g0]
  have p1 : h' (nx + 1) = some ⟨0, 0, [.ns, .ns], none⟩ := by rw [b5 (nx + 1) (by omega) (by omega), g1]
  have p4 : h' (nx + 1 + 1 + 1 + 1) = some ⟨0, 1, fl ic s, none⟩ := by rw [b5 _ (by omega) (by omega), g4]
  generalize (scr 0 0 c many).1 = out at *
  generalize (scr 0 0 c many).2 = cc at *
  simp -dsimp [p0, p1, n01]
  have q1 := Acc.mk (d := ic) (l := cc) (h := upd h' (nx + 1) (some ⟨0, 0, [.sl (nx + 3) 0 0 c.length none, .sl (nx + 1 + 1 + 1 + 1) 0 0 s.length none], none⟩)) (nx := nx') (id := nx + 3) (ver := 0) (cap := none) (by omega) (by simp only [upd]; rw [if_neg (by omega)]; exact b4)
  have q2 := Acc.mk (d := ic) (l := s) (h := upd h' (nx + 1) (some ⟨0, 0, [.sl (nx + 3) 0 0 c.length none, .sl (nx + 1 + 1 + 1 + 1) 0 0 s.length none], none⟩)) (nx := nx') (id := nx + 1 + 1 + 1 + 1) (ver := 0) (cap := none) (by omega) (by simp only [upd]; rw [if_neg (by omega)]; exact p4)
  rw [hsl.1] at q1
  refine ⟨_, _, _, rfl, q1, q2, by omega, fun j hj => ?_⟩
  simp only [upd]
  rw [if_neg (by omega), b5 j (by omega) (by omega), gold j hj]
end Go.Proofs.P3
