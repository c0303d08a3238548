/- What is lost and what is wrong; rounds; the laws. -/
import Derived.Test.YtjldiihndmkpfaaP3i
set_option linter.unusedVariables false
set_option linter.unusedSimpArgs false
set_option maxRecDepth 10000
set_option maxHeartbeats 8000000
namespace Go.Proofs.P3
open Go.Ex
theorem decIR_ok {x : Int} (h : inC x) : OkF Try.prog 128 [.int .i64 x] (.tup [.int .i64 (decE x).1, .int .i64 (decE x).2.1, .int .i64 (decE x).2.2], []) := by
  obtain ⟨c, rfl, hc⟩ := inC_nat h
  exact decodedR_ok hc
def lostL (c : List Int) : Nat → List Int
  | 0 => []
  | k + 1 => if (decE (lAt c k)).2.2 ≠ 0 then lostL c k ++ [(k : Int)] else lostL c k
def wrongL (c s : List Int) : Nat → List Int
  | 0 => []
  | k + 1 => if (decE (lAt c k)).2.2 = 0 ∧ (decE (lAt c k)).1 ≠ lAt s k then wrongL c s k ++ [(k : Int)] else wrongL c s k
theorem lostL_len (c : List Int) : ∀ k, (lostL c k).length ≤ k
  | 0 => by simp [lostL]
  | k + 1 => by
    have := lostL_len c k
    unfold lostL
    split <;> simp <;> omega
theorem wrongL_len (c s : List Int) : ∀ k, (wrongL c s k).length ≤ k
  | 0 => by simp [wrongL]
  | k + 1 => by
    have := wrongL_len c s k
    unfold wrongL
    split <;> simp <;> omega
structure LS (c s : List Int) (k : Nat) (t : St) : Prop where
  a2 : Acc ic t.h t.nx (t.t 2) (lostL c k)
  a3 : Acc ic t.h t.nx (t.t 3) (wrongL c s k)
  o2 : ∀ j, ownOf (t.t 2) = some j → 1 ≤ j
  o3 : ∀ j, ownOf (t.t 3) = some j → 1 ≤ j
  d : ∀ j, ownOf (t.t 2) = some j → ownOf (t.t 3) ≠ some j
  nx : 1 ≤ t.nx
  h0 : t.h 0 = some ⟨0, 0, [rI c, rI s], none⟩
theorem lost_ok (c s : List Int) (hl : s.length = c.length) (h2 : c.length ≤ 2000) : OkF Try.prog 95 [bkV (c, s)] (.tup [rI (lostL c c.length), rI (wrongL c s c.length)], []) := by
  refine OkF.W0 hm h95 (of_decide_eq_true rfl) ?_
  unfold c95
  simp -dsimp
  refine for_lt c.length (fun k t => LS c s k t ∧ t.t 1 = .pt 0 0 0 ∧ t.t 10 = rI c) rfl (by omega) ?_ (by simp -dsimp) (by simp -dsimp) (fun k t hk hI hi hn => ?_) (fun t hI hi hn => ?_)
  · exact ⟨⟨by simp -dsimp [lostL, Acc.nil], by simp -dsimp [wrongL, Acc.nil], fun j hj => by simp [ownOf] at hj, fun j hj => by simp [ownOf] at hj, fun j hj => by simp [ownOf] at hj, by simp -dsimp, by simp -dsimp⟩, by simp -dsimp⟩
  · obtain ⟨hI, i1, i10⟩ := hI
    have hg := get_lAt hk
    have hg' := get_lAt (c := s) (p := k) (by omega)
    have hS2 : lostL c (k + 1) = if (decE (lAt c k)).2.2 ≠ 0 then lostL c k ++ [(k : Int)] else lostL c k := rfl
    have hS3 : wrongL c s (k + 1) = if (decE (lAt c k)).2.2 = 0 ∧ (decE (lAt c k)).1 ≠ lAt s k then wrongL c s k ++ [(k : Int)] else wrongL c s k := rfl
    have b2 := lostL_len c k
    have b3 := wrongL_len c s k
    generalize lAt c k = x at *
    generalize lAt s k = y at *
    unfold k95_0
    simp -dsimp [i1, i10, hi, hn, i_ia hg, i_ld hg]
    refine call_pure (Decoded_ok x) (by simp) (by simp) ?_
    simp -dsimp
    by_cases q : (decE x).2.2 = 0
    · rw [if_neg (by simpa using q)] at hS2
      simp -dsimp [q, i1, hI.h0, i_ia hg', i_ld hg']
      by_cases q2 : (decE x).1 = y
      · rw [if_neg (fun e => e.2 q2)] at hS3
        simp -dsimp [q2, hi, hn, i1, i10]
        exact ⟨by simp -dsimp [hS2, hI.a2], by simp -dsimp [hS3, hI.a3], by simpa using hI.o2, by simpa using hI.o3, by simpa using hI.d, hI.nx, hI.h0⟩
      · rw [if_pos ⟨q, q2⟩] at hS3
        simp -dsimp [q2, fillA]
        refine push_acc (x := (k : Int)) hI.a3 rfl rfl (by omega) (by omega) fun v' h' nx' g1 g2 g3 g4 => ?_
        have hnx := hI.nx
        simp -dsimp [hi, hn, i1, i10]
        refine ⟨?_, by simp -dsimp [hS3, g1], by simpa using hI.o2, ?_, ?_, by simp -dsimp; omega, ?_⟩
        · simp -dsimp [hS2]
          exact hI.a2.keep (by omega) fun j hj ho => g3 j hj (hI.d j ho)
        · intro j hj
          simp at hj
          rcases g4 j hj with e | e
          · exact hI.o3 j e
          · omega
        · intro j hj hj'
          simp at hj hj'
          rcases g4 j hj' with e | e
          · exact hI.d j hj e
          · have := hI.a2.own hj; omega
        · simp -dsimp
          rw [g3 0 (by omega) (fun e => by have := hI.o3 0 e; omega), hI.h0]
    · rw [if_pos q] at hS2
      rw [if_neg (fun e => q e.1)] at hS3
      simp -dsimp [q, fillA]
      refine push_acc (x := (k : Int)) hI.a2 rfl rfl (by omega) (by omega) fun v' h' nx' g1 g2 g3 g4 => ?_
      have hnx := hI.nx
      simp -dsimp [hi, hn, i1, i10]
      refine ⟨by simp -dsimp [hS2, g1], ?_, ?_, by simpa using hI.o3, ?_, by simp -dsimp; omega, ?_⟩
      · simp -dsimp [hS3]
        exact hI.a3.keep (by omega) fun j hj ho => g3 j hj (fun e => hI.d j e ho)
      · intro j hj
        simp at hj
        rcases g4 j hj with e | e
        · exact hI.o2 j e
        · omega
      · intro j hj hj'
        simp at hj hj'
        rcases g4 j hj with e | e
        · exact hI.d j e hj'
        · have := hI.a3.own hj'; omega
      · simp -dsimp
        rw [g3 0 (by omega) (fun e => by have := hI.o2 0 e; omega), hI.h0]
  · obtain ⟨hI, i1, i10⟩ := hI
    have e2 := hI.a2.ex1
    have e3 := hI.a3.ex1
    simp -dsimp
    simp [e2, e3]
theorem lostR_ok (c s : List Int) (hc : ∀ x ∈ c, inC x) (h2 : c.length ≤ 2000) : OkF Try.prog 96 [bkV (c, s)] (rI (lostL c c.length), []) := by
  refine OkF.W0 hm h96 (of_decide_eq_true rfl) ?_
  unfold c96
  simp -dsimp
  refine for_lt c.length (fun k t => Acc ic t.h t.nx (t.t 3) (lostL c k) ∧ t.t 10 = rI c) rfl (by omega) ?_ (by simp -dsimp) (by simp -dsimp) (fun k t hk hI hi hn => ?_) (fun t hI hi hn => ?_)
  · exact ⟨by simp -dsimp [lostL, Acc.nil], by simp -dsimp⟩
  · obtain ⟨hI, i10⟩ := hI
    have hg := get_lAt hk
    have hin := lAt_in hc hk
    have hS2 : lostL c (k + 1) = if (decE (lAt c k)).2.2 ≠ 0 then lostL c k ++ [(k : Int)] else lostL c k := rfl
    have b2 := lostL_len c k
    generalize lAt c k = x at *
    unfold k96_0
    simp -dsimp [i10, hi, hn, i_ia hg, i_ld hg]
    refine call_pure (decIR_ok hin) (by simp) (by simp) ?_
    simp -dsimp
    by_cases q : (decE x).2.2 = 0
    · rw [if_neg (by simpa using q)] at hS2
      simp -dsimp [q, hi, hn, i10, hS2, hI]
    · rw [if_pos q] at hS2
      simp -dsimp [q, fillA]
      refine push_acc (x := (k : Int)) hI rfl rfl (by omega) (by omega) fun v' h' nx' g1 g2 g3 g4 => ?_
      simp -dsimp [hi, hn, i10, hS2, g1]
  · have e2 := hI.1.ex
    simp -dsimp [e2]
theorem wrongR_ok (c s : List Int) (hc : ∀ x ∈ c, inC x) (hl : s.length = c.length) (h2 : c.length ≤ 2000) : OkF Try.prog 97 [bkV (c, s)] (rI (wrongL c s c.length), []) := by
  refine OkF.W0 hm h97 (of_decide_eq_true rfl) ?_
  unfold c97
  simp -dsimp
  refine for_lt c.length (fun k t => Acc ic t.h t.nx (t.t 3) (wrongL c s k) ∧ t.t 10 = rI c ∧ t.t 1 = .pt 0 0 0 ∧ t.h 0 = some ⟨0, 0, [rI c, rI s], none⟩ ∧ (∀ j, ownOf (t.t 3) = some j → 1 ≤ j) ∧ 1 ≤ t.nx) rfl (by omega) ?_ (by simp -dsimp) (by simp -dsimp) (fun k t hk hI hi hn => ?_) (fun t hI hi hn => ?_)
  · exact ⟨by simp -dsimp [wrongL, Acc.nil], by simp -dsimp, by simp -dsimp, by simp -dsimp, fun j hj => by simp [ownOf] at hj, by simp -dsimp⟩
  · obtain ⟨hI, i10, i1, h0, ho3, hnx⟩ := hI
    have hg := get_lAt hk
    have hg' := get_lAt (c := s) (p := k) (by omega)
    have hin := lAt_in hc hk
    have hS3 : wrongL c s (k + 1) = if (decE (lAt c k)).2.2 = 0 ∧ (decE (lAt c k)).1 ≠ lAt s k then wrongL c s k ++ [(k : Int)] else wrongL c s k := rfl
    have b2 := wrongL_len c s k
    generalize lAt c k = x at *
    generalize lAt s k = y at *
    unfold k97_0
    simp -dsimp [i10, i1, hi, hn, i_ia hg, i_ld hg]
    refine call_pure (decIR_ok hin) (by simp) (by simp) ?_
    simp -dsimp
    by_cases q : (decE x).2.2 = 0
    · by_cases q2 : (decE x).1 = y
      · rw [if_neg (fun e => e.2 q2)] at hS3
        simp -dsimp [q, q2, i1, h0, i_ia hg', i_ld hg', hi, hn, i10, hS3]
        exact ⟨hI, ho3, hnx⟩
      · rw [if_pos ⟨q, q2⟩] at hS3
        simp -dsimp [q, q2, i1, h0, i_ia hg', i_ld hg', fillA]
        refine push_acc (x := (k : Int)) hI rfl rfl (by omega) (by omega) fun v' h' nx' g1 g2 g3 g4 => ?_
        simp -dsimp [hi, hn, i10, i1, hS3]
        refine ⟨g1, ?_, fun j hj => ?_, by omega⟩
        · rw [g3 0 (by omega) (fun e => by have := ho3 0 e; omega), h0]
        · rcases g4 j hj with e | e
          · exact ho3 j e
          · omega
    · rw [if_neg (fun e => q e.1)] at hS3
      simp -dsimp [q, hi, hn, i10, i1, hS3]
      exact ⟨hI, h0, ho3, hnx⟩
  · have e2 := hI.1.ex
    simp -dsimp [e2]
theorem ask_good {b : Bank} {r : Int × Int} {l : List Flip} {u : Int} (h : askE b r l u = 0) : flipsE b l = 0 ∧ ∃ ev mn un : Nat, r = (((ev : Nat) : Int), ((mn : Nat) : Int)) ∧ u = un ∧ 1 ≤ ev ∧ ev ≤ 1000000000000 ∧ 1 ≤ mn ∧ mn ≤ 5000 ∧ un ≤ 1000000000000 ∧ un / ev * mn ≤ 1000000 := by
  unfold askE at h
  split at h
  · rename_i q; exact absurd h q
  rename_i q
  refine ⟨by simpa using q, ?_⟩
  split at h
  · cases h
  rename_i a1
  split at h
  · cases h
  rename_i a2
  obtain ⟨ev, mn⟩ := r
  simp only [not_or, Bool.not_eq_false] at a1
  simp [inB] at a1
  refine ⟨ev.toNat, mn.toNat, u.toNat, by rw [Int.toNat_of_nonneg (by omega), Int.toNat_of_nonneg (by omega)], by omega, by omega, by omega, by omega, by omega, by omega, ?_⟩
  obtain ⟨e, rfl⟩ := Int.eq_ofNat_of_zero_le (show 0 ≤ ev by omega)
  obtain ⟨m, rfl⟩ := Int.eq_ofNat_of_zero_le (show 0 ≤ mn by omega)
  obtain ⟨w, rfl⟩ := Int.eq_ofNat_of_zero_le (show 0 ≤ u by omega)
  simp only [Int.toNat_natCast]
  simp only [Int.not_lt] at a2
  have : ((w / e * m : Nat) : Int) ≤ 1000000 := by rw [Int.natCast_mul, Int.natCast_ediv]; exact a2
  omega
def roundsS (b : Bank) (r : Int × Int) (l : List Flip) (u : Int) : Bank × List Scrub × Int :=
  if askE b r l u ≠ 0 then (([], []), [], askE b r l u) else (((liveS r.1.toNat r.2.toNat b.1 l u.toNat).1, b.2), (liveS r.1.toNat r.2.toNat b.1 l u.toNat).2, 0)
theorem live_len {ev mn : Nat} {c : List Int} {l : List Flip} {u : Nat} (h0 : 0 < c.length) (hc : ∀ x ∈ c, inC x) (hl : ∀ x ∈ l, FlipOk c.length x) : (liveS ev mn c l u).1.length = c.length ∧ (∀ x ∈ (liveS ev mn c l u).1, inC x) ∧ (liveS ev mn c l u).2.length ≤ u / ev * mn := by
  have hR := rnd_ok (ev := ev) (mn := mn) (l := l) h0 hc hl (u / ev)
  have fl := flipTo_len (u : Int) (rnd ev mn c l (u / ev)).2.2.2 (rnd ev mn c l (u / ev)).2.1
  have fi := flipTo_in (u : Int) (rnd ev mn c l (u / ev)).2.2.2 (rnd ev mn c l (u / ev)).2.1 hR.cin (by rw [hR.len]; exact hR.lok)
  exact ⟨fl.trans hR.len, fi, hR.out⟩
theorem Rounds_ok (b : Bank) (r : Int × Int) (l : List Flip) (u : Int) : OkF Try.prog 42 [bkV b, rdV r, rF l, .int .i64 u] (.tup [bkV (roundsS b r l u).1, rS (roundsS b r l u).2.1, .int .i64 (roundsS b r l u).2.2], []) := by
  refine OkF.G0 hm h42 (of_decide_eq_true rfl) ?_
  unfold c42
  simp -dsimp
  refine call_pure (checkRound_ok b r l u) (by simp) rfl ?_
  simp -dsimp
  by_cases q : askE b r l u = 0
  · obtain ⟨hf, ev, mn, un, rfl, rfl, e1, e2, e3, e4, e5, e6⟩ := ask_good q
    obtain ⟨hb, hl2, hl⟩ := flips_good hf
    have hE : roundsS b (((ev : Nat) : Int), ((mn : Nat) : Int)) l un = (((liveS ev mn b.1 l un).1, b.2), (liveS ev mn b.1 l un).2, 0) := by unfold roundsS; rw [if_neg (by simpa using q)]; rfl
    simp -dsimp [q]
    refine call_pure (live_ok b ev mn un l hb hl hl2 e1 e2 e4 e5 e6) (by simp) (by simp) ?_
    simp -dsimp
    simp [hE]
  · have hE : roundsS b r l u = (([], []), [], askE b r l u) := by unfold roundsS; rw [if_pos q]
    simp -dsimp [q, fillS]
    simp [hE]
theorem RoundsR_ok (b : Bank) (r : Int × Int) (l : List Flip) (u : Int) : OkF Try.prog 43 [bkV b, rdV r, rF l, .int .i64 u] (.tup [bkV (roundsS b r l u).1, rS (roundsS b r l u).2.1, .int .i64 (roundsS b r l u).2.2], []) := by
  refine OkF.G0 hm h43 (of_decide_eq_true rfl) ?_
  unfold c43
  simp -dsimp
  refine call_pure (ask_ok b r l u) (by simp) rfl ?_
  simp -dsimp
  by_cases q : askE b r l u = 0
  · obtain ⟨hf, ev, mn, un, rfl, rfl, e1, e2, e3, e4, e5, e6⟩ := ask_good q
    obtain ⟨hb, hl2, hl⟩ := flips_good hf
    have hE : roundsS b (((ev : Nat) : Int), ((mn : Nat) : Int)) l un = (((liveS ev mn b.1 l un).1, b.2), (liveS ev mn b.1 l un).2, 0) := by unfold roundsS; rw [if_neg (by simpa using q)]; rfl
    simp -dsimp [q]
    refine call_pure (play_ok b ev mn un l hb hl hl2 e1 (by omega) e4 e5 e6) (by simp) (by simp) ?_
    simp -dsimp
    simp [hE]
  · have hE : roundsS b r l u = (([], []), [], askE b r l u) := by unfold roundsS; rw [if_pos q]
    simp -dsimp [q, fillS]
    simp [hE]
def lostS (b : Bank) (r : Int × Int) (l : List Flip) (u : Int) : List Int × Int :=
  if askE b r l u ≠ 0 then ([], askE b r l u) else (lostL (liveS r.1.toNat r.2.toNat b.1 l u.toNat).1 b.1.length, 0)
def wrongS (b : Bank) (r : Int × Int) (l : List Flip) (u : Int) : List Int × Int :=
  if askE b r l u ≠ 0 then ([], askE b r l u) else (wrongL (liveS r.1.toNat r.2.toNat b.1 l u.toNat).1 b.2 b.1.length, 0)
theorem Lost_ok (b : Bank) (r : Int × Int) (l : List Flip) (u : Int) : OkF Try.prog 51 [bkV b, rdV r, rF l, .int .i64 u] (.tup [rI (lostS b r l u).1, .int .i64 (lostS b r l u).2], []) := by
  refine OkF.W0 hm h51 (of_decide_eq_true rfl) ?_
  unfold c51
  simp -dsimp
  refine call_pure (checkRound_ok b r l u) (by simp) rfl ?_
  simp -dsimp
  by_cases q : askE b r l u = 0
  · obtain ⟨hf, ev, mn, un, rfl, rfl, e1, e2, e3, e4, e5, e6⟩ := ask_good q
    obtain ⟨hb, hl2, hl⟩ := flips_good hf
    have hE : lostS b (((ev : Nat) : Int), ((mn : Nat) : Int)) l un = (lostL (liveS ev mn b.1 l un).1 b.1.length, 0) := by unfold lostS; rw [if_neg (by simpa using q)]; rfl
    obtain ⟨k1, k2, k3⟩ := live_len (ev := ev) (mn := mn) (u := un) hb.pos hb.c hl
    have hbl := hb.len; have hbm := hb.most
    simp -dsimp [q]
    refine call_pure (live_ok b ev mn un l hb hl hl2 e1 e2 e4 e5 e6) (by simp) (by simp) ?_
    simp -dsimp
    have hlo := lost_ok (liveS ev mn b.1 l un).1 b.2 (by omega) (by omega)
    rw [k1] at hlo
    refine call_pure hlo (by simp) (by simp) ?_
    simp -dsimp [hE]
  · have hE : lostS b r l u = ([], askE b r l u) := by unfold lostS; rw [if_pos q]
    simp -dsimp [q, hE]
theorem Wrong_ok (b : Bank) (r : Int × Int) (l : List Flip) (u : Int) : OkF Try.prog 52 [bkV b, rdV r, rF l, .int .i64 u] (.tup [rI (wrongS b r l u).1, .int .i64 (wrongS b r l u).2], []) := by
  refine OkF.W0 hm h52 (of_decide_eq_true rfl) ?_
  unfold c52
  simp -dsimp
  refine call_pure (checkRound_ok b r l u) (by simp) rfl ?_
  simp -dsimp
  by_cases q : askE b r l u = 0
  · obtain ⟨hf, ev, mn, un, rfl, rfl, e1, e2, e3, e4, e5, e6⟩ := ask_good q
    obtain ⟨hb, hl2, hl⟩ := flips_good hf
    have hE : wrongS b (((ev : Nat) : Int), ((mn : Nat) : Int)) l un = (wrongL (liveS ev mn b.1 l un).1 b.2 b.1.length, 0) := by unfold wrongS; rw [if_neg (by simpa using q)]; rfl
    obtain ⟨k1, k2, k3⟩ := live_len (ev := ev) (mn := mn) (u := un) hb.pos hb.c hl
    have hbl := hb.len; have hbm := hb.most
    simp -dsimp [q]
    refine call_pure (live_ok b ev mn un l hb hl hl2 e1 e2 e4 e5 e6) (by simp) (by simp) ?_
    simp -dsimp
    have hlo := lost_ok (liveS ev mn b.1 l un).1 b.2 (by omega) (by omega)
    rw [k1] at hlo
    refine call_pure hlo (by simp) (by simp) ?_
    simp -dsimp [hE]
  · have hE : wrongS b r l u = ([], askE b r l u) := by unfold wrongS; rw [if_pos q]
    simp -dsimp [q, hE]
theorem LostR_ok (b : Bank) (r : Int × Int) (l : List Flip) (u : Int) : OkF Try.prog 53 [bkV b, rdV r, rF l, .int .i64 u] (.tup [rI (lostS b r l u).1, .int .i64 (lostS b r l u).2], []) := by
  refine OkF.W0 hm h53 (of_decide_eq_true rfl) ?_
  unfold c53
  simp -dsimp
  refine call_pure (ask_ok b r l u) (by simp) rfl ?_
  simp -dsimp
  by_cases q : askE b r l u = 0
  · obtain ⟨hf, ev, mn, un, rfl, rfl, e1, e2, e3, e4, e5, e6⟩ := ask_good q
    obtain ⟨hb, hl2, hl⟩ := flips_good hf
    have hE : lostS b (((ev : Nat) : Int), ((mn : Nat) : Int)) l un = (lostL (liveS ev mn b.1 l un).1 b.1.length, 0) := by unfold lostS; rw [if_neg (by simpa using q)]; rfl
    obtain ⟨k1, k2, k3⟩ := live_len (ev := ev) (mn := mn) (u := un) hb.pos hb.c hl
    have hbl := hb.len; have hbm := hb.most
    simp -dsimp [q]
    refine call_pure (play_ok b ev mn un l hb hl hl2 e1 (by omega) e4 e5 e6) (by simp) (by simp) ?_
    simp -dsimp
    have hlo := lostR_ok (liveS ev mn b.1 l un).1 b.2 k2 (by omega)
    rw [k1] at hlo
    refine call_pure hlo (by simp) (by simp) ?_
    simp -dsimp [hE]
  · have hE : lostS b r l u = ([], askE b r l u) := by unfold lostS; rw [if_pos q]
    simp -dsimp [q, hE]
theorem WrongR_ok (b : Bank) (r : Int × Int) (l : List Flip) (u : Int) : OkF Try.prog 54 [bkV b, rdV r, rF l, .int .i64 u] (.tup [rI (wrongS b r l u).1, .int .i64 (wrongS b r l u).2], []) := by
  refine OkF.W0 hm h54 (of_decide_eq_true rfl) ?_
  unfold c54
  simp -dsimp
  refine call_pure (ask_ok b r l u) (by simp) rfl ?_
  simp -dsimp
  by_cases q : askE b r l u = 0
  · obtain ⟨hf, ev, mn, un, rfl, rfl, e1, e2, e3, e4, e5, e6⟩ := ask_good q
    obtain ⟨hb, hl2, hl⟩ := flips_good hf
    have hE : wrongS b (((ev : Nat) : Int), ((mn : Nat) : Int)) l un = (wrongL (liveS ev mn b.1 l un).1 b.2 b.1.length, 0) := by unfold wrongS; rw [if_neg (by simpa using q)]; rfl
    obtain ⟨k1, k2, k3⟩ := live_len (ev := ev) (mn := mn) (u := un) hb.pos hb.c hl
    have hbl := hb.len; have hbm := hb.most
    simp -dsimp [q]
    refine call_pure (play_ok b ev mn un l hb hl hl2 e1 (by omega) e4 e5 e6) (by simp) (by simp) ?_
    simp -dsimp
    have hlo := wrongR_ok (liveS ev mn b.1 l un).1 b.2 k2 (by omega) (by omega)
    rw [k1] at hlo
    refine call_pure hlo (by simp) (by simp) ?_
    simp -dsimp [hE]
  · have hE : wrongS b r l u = ([], askE b r l u) := by unfold wrongS; rw [if_pos q]
    simp -dsimp [q, hE]
theorem equalS_ok (l m : List Scrub) (hl : l.length < 2 ^ 62) : OkF Try.prog 46 [rS l, rS m] (.bool (decide (l = m)), []) :=
  equal_ok (d := scrCd) (tags := [0, 0, 0, 0]) hm h46 rfl (by decide) (fun a b => by
    obtain ⟨a1, a2, a3, a4⟩ := a
    obtain ⟨b1, b2, b3, b4⟩ := b
    simp [seqA, scrCd, Cd.pair, eqCells, tagOf]
    rw [Bool.eq_iff_iff]
    simp) l m hl
theorem rounds_len (b : Bank) (r : Int × Int) (l : List Flip) (u : Int) : (roundsS b r l u).1.1.length < 2 ^ 62 ∧ (roundsS b r l u).1.2.length < 2 ^ 62 ∧ (roundsS b r l u).2.1.length < 2 ^ 62 := by
  by_cases q : askE b r l u = 0
  · obtain ⟨hf, ev, mn, un, rfl, rfl, e1, e2, e3, e4, e5, e6⟩ := ask_good q
    obtain ⟨hb, hl2, hl⟩ := flips_good hf
    have hE : roundsS b (((ev : Nat) : Int), ((mn : Nat) : Int)) l un = (((liveS ev mn b.1 l un).1, b.2), (liveS ev mn b.1 l un).2, 0) := by unfold roundsS; rw [if_neg (by simpa using q)]; rfl
    obtain ⟨k1, k2, k3⟩ := live_len (ev := ev) (mn := mn) (u := un) hb.pos hb.c hl
    have hbl := hb.len; have hbm := hb.most
    rw [hE]
    simp only
    omega
  · unfold roundsS
    rw [if_pos q]
    simp
theorem MemoryRoundsMatchSpec (b : Bank) (r : Int × Int) (l : List Flip) (u : Int) : OkF Try.prog 10 [bkV b, rdV r, rF l, .int .i64 u] (.bool true, []) := by
  obtain ⟨l1, l2, l3⟩ := rounds_len b r l u
  refine OkF.W0 hm h10 (of_decide_eq_true rfl) ?_
  unfold c10
  simp -dsimp
  refine call_pure (Rounds_ok b r l u) (by simp) (by simp) ?_
  simp -dsimp
  refine call_pure (RoundsR_ok b r l u) (by simp) (by simp) ?_
  simp -dsimp
  refine call_pure (CheckFlips_ok b l) (by simp) rfl ?_
  simp -dsimp
  refine call_pure (CheckFlipsR_ok b l) (by simp) rfl ?_
  simp -dsimp
  refine call_pure (Same_ok _ _ l1 l2) (by simp) rfl ?_
  simp -dsimp
  refine call_pure (equalS_ok _ _ l3) (by simp) rfl ?_
  simp -dsimp
  refine call_pure awake_ok (by simp) rfl ?_
  simp -dsimp
theorem lostS_len (b : Bank) (r : Int × Int) (l : List Flip) (u : Int) : (lostS b r l u).1.length < 2 ^ 62 ∧ (wrongS b r l u).1.length < 2 ^ 62 := by
  unfold lostS wrongS
  by_cases q : askE b r l u = 0
  · obtain ⟨hf, ev, mn, un, rfl, rfl, e1, e2, e3, e4, e5, e6⟩ := ask_good q
    obtain ⟨hb, hl2, hl⟩ := flips_good hf
    have hbm := hb.most
    rw [if_neg (by simpa using q), if_neg (by simpa using q)]
    have := lostL_len (liveS ev mn b.1 l un).1 b.1.length
    have := wrongL_len (liveS ev mn b.1 l un).1 b.2 b.1.length
    simp only [Int.toNat_natCast]
    omega
  · rw [if_pos q, if_pos q]
    simp
theorem MemoryLostMatchesSpec (b : Bank) (r : Int × Int) (l : List Flip) (u : Int) : OkF Try.prog 13 [bkV b, rdV r, rF l, .int .i64 u] (.bool true, []) := by
  obtain ⟨l1, l2⟩ := lostS_len b r l u
  refine OkF.W0 hm h13 (of_decide_eq_true rfl) ?_
  unfold c13
  simp -dsimp
  refine call_pure (Lost_ok b r l u) (by simp) (by simp) ?_
  simp -dsimp
  refine call_pure (LostR_ok b r l u) (by simp) (by simp) ?_
  simp -dsimp
  refine call_pure (equalI_ok _ _ l1) (by simp) rfl ?_
  simp -dsimp
  refine call_pure (Wrong_ok b r l u) (by simp) (by simp) ?_
  simp -dsimp
  refine call_pure (WrongR_ok b r l u) (by simp) (by simp) ?_
  simp -dsimp
  refine call_pure (equalI_ok _ _ l2) (by simp) rfl ?_
  simp -dsimp
  refine call_pure awake_ok (by simp) rfl ?_
  simp -dsimp
end Go.Proofs.P3
