/- A packet's bytes kept in words: the law's walk. -/
import Derived.Test.YtjldiihndmkpfaaT8
set_option linter.unusedVariables false
set_option linter.unusedSimpArgs false
set_option maxRecDepth 10000
set_option maxHeartbeats 8000000
namespace Go.Proofs.P3
open Go.Ex
theorem LP_cut {P : Program} {C : Cmd} {Q : E → St → Prop} {s : St} (Q' : E → St → Prop) (h : LP P C Q' s ⟨⟩ ⟨⟩) (hQ : ∀ e s', Q' e s' → Q e s') : LP P C Q s ⟨⟩ ⟨⟩ := by
  obtain ⟨I, ν, h0, hr⟩ := h
  refine ⟨I, ν, h0, fun s hs => wpA_mono C (fun e s' he => ?_) (hr s hs)⟩
  cases e with
  | norm => exact he
  | exit j => exact hQ _ _ he
  | ret => exact hQ _ _ he
theorem W_cut {P : Program} {C D : Cmd} {Q : E → St → Prop} {s : St} (I : St → Prop) (h : Ex.W P C (fun e s => e = .norm ∧ I s) s ⟨⟩ ⟨⟩) (hD : ∀ s, I s → Ex.W P D Q s ⟨⟩ ⟨⟩) : Ex.W P C (fun e s => seqK (fun s => Ex.W P D Q s ⟨⟩ ⟨⟩) Q e s ⟨⟩ ⟨⟩) s ⟨⟩ ⟨⟩ :=
  wpA_mono C (fun e s' he => by obtain ⟨rfl, hi⟩ := he; exact hD s' hi) h
theorem cond_cut {P : Program} {b : Bool} {A B D : Cmd} {Q : E → St → Prop} {s : St} (I : St → Prop) (hA : b = true → Ex.W P A (fun e s => e = .norm ∧ I s) s ⟨⟩ ⟨⟩) (hB : b = false → Ex.W P B (fun e s => e = .norm ∧ I s) s ⟨⟩ ⟨⟩) (hD : ∀ s, I s → Ex.W P D Q s ⟨⟩ ⟨⟩) :
    condK (.bool b) (Ex.W P A (fun e s => seqK (fun s => Ex.W P D Q s ⟨⟩ ⟨⟩) Q e s ⟨⟩ ⟨⟩) s ⟨⟩ ⟨⟩) (Ex.W P B (fun e s => seqK (fun s => Ex.W P D Q s ⟨⟩ ⟨⟩) Q e s ⟨⟩ ⟨⟩) s ⟨⟩ ⟨⟩) ⟨⟩ ⟨⟩ := by
  cases b with
  | true => exact W_cut I (hA rfl) hD
  | false => exact W_cut I (hB rfl) hD
abbrev pk0 (p : Pkt) : Option LB := some ⟨0, 0, [.int .i64 p.1, .bool p.2.1, .int .i64 p.2.2.1, .int .i64 p.2.2.2.1, rB p.2.2.2.2], none⟩
structure CI (p : Pkt) (fs : List Int) (s : St) : Prop where
  i1 : s.t 1 = rI fs
  i2 : s.t 2 = .pt 0 0 0
  i5 : s.t 5 = rB (rawB p)
  a7 : Acc byteCd s.h s.nx (s.t 7) (evn (rawB p))
  nx : 1 ≤ s.nx
  h0 : s.h 0 = pk0 p
theorem toRO_pk {g : Hp} {i : Nat} {p : Pkt} (hg : g i = some ⟨0, 1, fl byteCd p.2.2.2.2, none⟩) : toRO g 8 (.agg [.int .i64 p.1, .bool p.2.1, .int .i64 p.2.2.1, .int .i64 p.2.2.2.1, .sl i 0 0 p.2.2.2.2.length none]) = some (pkV p) := by
  have c1 := (Acc.mk (d := byteCd) (nx := i + 1) (l := p.2.2.2.2) (cap := none) (by omega) hg).cell (n := 7)
  have hp : V.pureL [.int .i64 p.1, .bool p.2.1, .int .i64 p.2.2.1, .int .i64 p.2.2.2.1, .sl i 0 0 p.2.2.2.2.length none] = false := rfl
  have ci : ∀ (k : IntKind) (n : Int), cellRO g 8 (.int k n) = some (.int k n) := fun _ _ => rfl
  have cb : ∀ (b : Bool), cellRO g 8 (.bool b) = some (.bool b) := fun _ => rfl
  have c2 : cellRO g 8 (.sl i 0 0 p.2.2.2.2.length none) = some (rB p.2.2.2.2) := c1
  unfold toRO
  simp only [hp]
  simp [c2, ci, cb]
theorem rf_byte : ∀ l : List UInt8, roFreeL (fl byteCd l) = true
  | [] => rfl
  | a :: l => by
    show roFreeL (V.int .u8 (a.toNat : Int) :: fl byteCd l) = true
    simp [roFreeL, roFree, rf_byte l]
theorem TopPacketsThroughMemory (p : Pkt) (fs : List Int) (hf : fs.length < 2 ^ 62) : OkF Try.prog 15 [pkV p, rI fs] (.bool true, []) := by
  refine OkF.W0 hm h15 (of_decide_eq_true rfl) ?_
  unfold c15
  have e62 := Go.Ex.e62
  have e47 := Go.Ex.e47
  have kB := Bytes_ok p
  simp -dsimp
  refine call_pure kB (by simp) (by simp [V.pure, V.pureL, fl_pure]) ?_
  by_cases hE : pkE p = 0
  rotate_left
  · rw [if_neg hE]
    simp -dsimp [hE]
    refine call_pure works_ok (by simp) rfl ?_
    simp -dsimp
  have hp := pk_good hE
  have hb := hp.b
  have hrl : (rawB p).length = p.2.2.2.2.length + 8 := by
    unfold rawB hdB
    simp only [List.length_append]
    show 2 + 2 + 2 + _ + 2 = _
    omega
  obtain ⟨K, e1, e2, e3⟩ := evn_len (rawB p)
  obtain ⟨pad, hpad, hpad1⟩ := evn_pad (rawB p)
  have hRd := Read_ok hp pad hpad1
  rw [← hpad] at hRd
  have hne : rawB p ≠ [] := fun q => by rw [q] at hrl; simp at hrl
  have hcl := cloneB_ok (rawB p) (by omega) hne
  have hev : evn (rawB p) = if (rawB p).length % 2 = 1 then rawB p ++ [0] else rawB p := rfl
  have hSm := SameP_ok p (by omega)
  rw [if_pos hE]
  simp -dsimp [hE]
  refine call_own hcl (okRes_of (by simp)) ?_
  have htm : ((rawB p).length : Int).tmod 2 = (((rawB p).length % 2 : Nat) : Int) := by rw [Int.tmod_eq_emod_of_nonneg (by omega)]; omega
  have hacc : Acc byteCd (upd (upd none0 0 (pk0 p)) 1 (some ⟨0, 1, fl byteCd (rawB p), none⟩)) 2 (.sl 1 0 0 (rawB p).length none) (rawB p) := Acc.mk (by decide) (by simp; rfl)
  simp -dsimp [addB, callRd_one, callWr_one, htm]
  refine cond_cut (CI p fs) (fun hq => ?_) (fun hq => ?_) (fun s hI => ?_)
  · have hq1 : (rawB p).length % 2 = 1 := by simp at hq; omega
    simp -dsimp [fillA]
    refine app_acc (l' := [(0 : UInt8)]) hacc rfl rfl (by simp; omega) (by simp; omega) fun v2 h2 nx2 d1 d2 d3 d4 => ?_
    simp -dsimp
    refine ⟨by simp -dsimp, by simp -dsimp, by simp -dsimp, by simp -dsimp; rw [hev, if_pos hq1]; exact d1, by simp -dsimp; omega, ?_⟩
    simp -dsimp
    rw [d3 0 (by decide) (by simp [ownOf])]
    simp
  · have hq1 : ¬ (rawB p).length % 2 = 1 := by simp at hq; omega
    simp -dsimp
    exact ⟨by simp -dsimp, by simp -dsimp, by simp -dsimp, by simp -dsimp; rw [hev, if_neg hq1]; exact hacc, by simp -dsimp, by simp -dsimp⟩
  clear hacc htm hcl kB
  obtain ⟨i1, i2, i5, a7, inx, ih0⟩ := hI
  generalize hEv : evn (rawB p) = e at *
  simp -dsimp [fillS]
  have hlow : ∀ j, j < s.nx → (upd (upd s.h s.nx (some ⟨0, 0, [.ns, .ns], none⟩)) s.nx (some ⟨0, 0, [.ns, .ns], none⟩)) j = s.h j := fun j hj => by simp only [upd]; rw [if_neg (by omega), if_neg (by omega)]
  refine LP_cut _ (words_walk (fs := fs) (e := e) (v7 := s.t 7) (r5 := rB (rawB p)) (h0 := s.h) (nx0 := s.nx) (K := K) e1 (by omega) (by omega) hf a7 ⟨by simp -dsimp [i1], by simp -dsimp [i2], by simp -dsimp [i5], by simp -dsimp, by simp -dsimp, by simp -dsimp, ⟨by simp -dsimp, fun j hj => ?_, .ns, .ns, ?_, Acc.nil _ _, Acc.nil _ _, ?_, ?_, ?_⟩⟩) ?_
  · simp -dsimp
    rw [if_neg (by omega), if_neg (by omega)]
  · simp -dsimp
  · intro j hj; cases hj
  · intro j hj; cases hj
  · intro j hj; cases hj
  rintro ee t ⟨rfl, ⟨j1, j2, j5, j7, j8, j9, ⟨le, old, v1, v2, hb1, a1, a2, o1, o2, dd⟩⟩⟩
  have hlc := csE_len e fs K
  have hlw := wsE_len e K
  have hbk := bank_E e fs (k := K) (by omega) (by omega)
  have hdec := fun i (hi : i < K) => scr_dec e fs (k := K) (m := K / 2) (i := i) (by omega) hi
  have hbs := bank_S e fs (k := K) (m := K / 2) (by omega) (by omega)
  have hsl := (scr_len 0 0 (csE e fs K) (K / 2)).1
  have hl1 := a1.len
  rw [hlc] at hl1
  have hsx := Scrubbed_ex a1 a2 hbk (many := K / 2) (by omega)
  have w1 : IntKind.i64.wrap ((K : Int) / 2) = ((K / 2 : Nat) : Int) := by rw [w_i64 (by omega) (by omega)]; omega
  have w2 : (K : Int).tdiv 2 = ((K / 2 : Nat) : Int) := by rw [Int.tdiv_eq_ediv_of_nonneg (by omega)]; omega
  have h00 : t.h 0 = pk0 p := by rw [old 0 (by omega), ih0]
  simp only [hlc] at hsl
  generalize (scr 0 0 (csE e fs K) (K / 2)).2 = sc at *
  generalize csE e fs K = cs at *
  generalize wsE e K = ws at *
  have hK2' : K / 2 ≤ 5000 := by omega
  generalize K / 2 = K2 at *
  have w3 : IntKind.i64.wrap ((K2 : Nat) : Int) = (K2 : Int) := w_i64 (by omega) (by omega)
  simp -dsimp [j8, hb1, hl1, w1, w2, w3]
  refine shr_ex hsx ?_
  rintro v h' nx' ⟨w1', w2', o, rfl, b1, b2, b3, b4⟩
  have n1 : ¬ nx' = s.nx := by omega
  have n1' : ¬ s.nx = nx' := by omega
  have hb2 : h' s.nx = some ⟨0, 0, [v1, v2], none⟩ := by rw [b4 s.nx le, hb1]
  have h01 : h' 0 = pk0 p := by rw [b4 0 (by omega), h00]
  obtain ⟨s1, s2⟩ := acc_st b1
  obtain ⟨s3, s4⟩ := acc_st b2
  simp -dsimp [n1, n1', j8, hb2, hl1, s1, s2, s3, s4]
  generalize hG : (upd _ nx' (some ⟨0, 0, [w1', w2'], none⟩) : Hp) = G
  have G1 : G nx' = some ⟨0, 0, [w1', w2'], none⟩ := by rw [← hG]; simp
  have G2 : ∀ j, j < nx' → G j = h' j := fun j hj => by rw [← hG]; simp only [upd]; first | rw [if_neg (by omega), if_neg (by omega)] | rw [if_neg (by omega)]
  have G0 : G 0 = pk0 p := by rw [G2 0 (by omega), h01]
  clear hG
  refine for_lt K (fun k t' => t'.t 13 = .pt nx' 0 0 ∧ t'.t 2 = .pt 0 0 0 ∧ t'.t 5 = rB (rawB p) ∧ nx' < t'.nx ∧ (∀ j, j ≤ nx' → t'.h j = G j) ∧ Acc byteCd t'.h t'.nx (t'.t 15) (e.take (2 * k)) ∧ ∀ j, ownOf (t'.t 15) = some j → nx' < j) rfl (by omega) ⟨by simp -dsimp, by simp -dsimp [j2], by simp -dsimp [j5], by simp -dsimp, fun j hj => by simp -dsimp, by simp -dsimp; exact Acc.nil _ _, fun j hj => by simp -dsimp at hj; cases hj⟩ (by simp -dsimp) (by simp -dsimp) (fun k t' hk hI hi hn => ?_) (fun t' hI hi hn => ?_)
  · obtain ⟨i13, i2', i5', inx', hold, ac, oc⟩ := hI
    have hT := take_two e k (by omega)
    have hx := wrd_hi e k
    have hwin := wrd_in e k
    have hwn : wrd e k = (((bAt e (2 * k)).toNat * 256 + (bAt e (2 * k + 1)).toNat : Nat) : Int) := rfl
    obtain ⟨d1, d2⟩ := hdec k hk
    have hrd := ReadAt_ok hbs (i := k) (by show k < sc.length; omega)
    simp only at hrd
    rw [d1, d2] at hrd
    have htl : (e.take (2 * k)).length ≤ 2 * k := by rw [List.length_take]; omega
    generalize (decE (lAt sc k)).2.1 = mm at *
    generalize bAt e (2 * k) = p0 at *
    generalize bAt e (2 * k + 1) = p1 at *
    obtain ⟨x, hxn⟩ : ∃ x : Nat, x = p0.toNat * 256 + p1.toNat := ⟨_, rfl⟩
    rw [← hxn] at hwn
    rw [hwn] at hrd
    have q0 := p0.toNat_lt
    have q1 := p1.toNat_lt
    have z1 : binA .shr (.int .i64 (x : Int)) (.int .u64 8) = some (.int .i64 ((x / 256 : Nat) : Int)) := A_shr (j := 8) (by decide)
    have z2 : IntKind.u8.wrap ((x / 256 : Nat) : Int) = (p0.toNat : Int) := by rw [IntWalk.u8_in _ (by omega)]; omega
    have z3 : IntKind.u8.wrap (x : Int) = (p1.toNat : Int) := by
      show (x : Int) % 256 = _
      omega
    have hle : nx' ≤ t'.nx := by omega
    have hfr : ∀ j, j < nx' → t'.h j = h' j := fun j hj => by rw [hold j (Nat.le_of_lt hj), G2 j hj]
    have hro : toRO t'.h 8 (.agg [w1', w2']) = some (bkV (sc, ws)) := toRO_agg2 (b1.mono hle hfr) (b2.mono hle hfr)
    have hb13 : t'.h nx' = some ⟨0, 0, [w1', w2'], none⟩ := by rw [hold nx' (Nat.le_refl _), G1]
    generalize x / 256 = xd at *
    generalize e.take (2 * k) = L0 at *
    unfold k15_1
    simp -dsimp [i13, hb13, hi, hro]
    refine call_one hrd (by simp [okRes, roFree, roFreeL]) ?_
    simp -dsimp [-i_shr, z1, z2, z3, fillA]
    have ac2 : Acc byteCd (upd t'.h t'.nx (some ⟨0, 1, [V.int .u8 (p0.toNat : Int), V.int .u8 (p1.toNat : Int)], none⟩)) (t'.nx + 1) (t'.t 15) L0 := ac.mono (Nat.le_succ _) fun j hj => by
      simp only [upd]
      rw [if_neg (by omega)]
    refine app_acc (l' := [p0, p1]) ac2 rfl rfl (by show (L0.length + 2) * 1 ≤ 2 ^ 47; omega) (by show L0.length + 2 < 2 ^ 62; omega) fun v4 h4 nx4 c1 c2 c3 c4 => ?_
    simp -dsimp [i13, i2', i5', hi, hn]
    refine ⟨by omega, fun j hj => ?_, ?_, fun j hj => ?_⟩
    · rw [c3 j (by omega) (fun q => by have := oc j q; omega)]
      simp only [upd]
      rw [if_neg (by omega), hold j hj]
    · rw [hT]
      exact c1
    · rcases c4 j hj with q | q
      · exact oc j q
      · omega
  · obtain ⟨i13, i2', i5', inx', hold, ac, oc⟩ := hI
    have hte : e.take (2 * K) = e := List.take_of_length_le (by omega)
    rw [hte] at ac
    have hro := ac.ro (n := 7)
    have hb0 : t'.h 0 = pk0 p := by rw [hold 0 (by omega), G0]
    unfold rdR at hRd
    simp -dsimp [hro]
    refine call_own hRd (by simp [okRes, roFree, roFreeL, rf_byte]) ?_
    have n2 : ¬ 0 = t'.nx := by omega
    have n3 : ¬ t'.nx = 0 := by omega
    have hr2 : toRO (upd (upd (upd t'.h t'.nx (some ⟨0, 1, fl byteCd p.2.2.2.2, none⟩)) (t'.nx + 1) (some ⟨0, 0, [.int .i64 0, .bool false, .int .i64 0, .int .i64 0, .ns], none⟩)) (t'.nx + 1) (some ⟨0, 0, [.int .i64 p.1, .bool p.2.1, .int .i64 p.2.2.1, .int .i64 p.2.2.2.1, .sl t'.nx 0 0 p.2.2.2.2.length none], none⟩)) 8 (.agg [.int .i64 p.1, .bool p.2.1, .int .i64 p.2.2.1, .int .i64 p.2.2.2.1, .sl t'.nx 0 0 p.2.2.2.2.length none]) = some (pkV p) := toRO_pk (by simp only [upd]; rw [if_neg (by omega), if_neg (by omega), if_pos (by trivial)])
    simp -dsimp [addB, i2', i5', hb0, n2, n3, hr2]
    refine call_bool hSm ?_
    simp -dsimp
    refine call_pure works_ok (by simp) rfl ?_
    simp -dsimp
open Go.Lib Go.RowKit in
theorem opens_byte {P : Program} {t : TypeId} (ht : P.underlying t = some (.int .u8)) : Opens P byteCd t (fun _ => True) := by
  intro H enc w base spare held fuel cs D ps h _
  obtain ⟨n, rfl, _, hw⟩ := DataW.trod_int ht h
  simp only [Lit.wf, Bool.and_eq_true, decide_eq_true_eq] at hw
  have h1 : 0 ≤ n := hw.1
  have h2 : n ≤ 255 := hw.2
  have e : ((UInt8.ofNat n.toNat).toNat : Int) = n := by rw [u8n (by omega)]; omega
  refine ⟨UInt8.ofNat n.toNat, ?_, trivial⟩
  show CRep w [V.int .u8 ((UInt8.ofNat n.toNat).toNat : Int)] _
  rw [e]
  exact crep_one (fun _ _ => .int .u8 n) rfl
def pktCd : Cd Pkt := .pair ic (.pair Cd.bool (.pair ic (.pair ic (.slice byteCd))))
end Go.Proofs.P3
