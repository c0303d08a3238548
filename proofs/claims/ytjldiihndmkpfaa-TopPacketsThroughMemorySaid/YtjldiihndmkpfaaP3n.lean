/- Scrubbed in time: the law. -/
import Derived.Test.YtjldiihndmkpfaaP3l
set_option linter.unusedVariables false
set_option linter.unusedSimpArgs false
set_option maxRecDepth 10000
set_option maxHeartbeats 8000000
namespace Go.Proofs.P3
open Go.Ex
theorem below_math (x n : Int) (h1 : 1 ≤ n) : (x.tmod n < 0 → x.tmod n + n = x % n) ∧ (¬ x.tmod n < 0 → x.tmod n = x % n) ∧ -n < x.tmod n := by
  by_cases hx : 0 ≤ x
  · have e := Int.tmod_eq_emod_of_nonneg (b := n) hx
    have := Int.emod_nonneg x (show n ≠ 0 by omega)
    rw [e]
    exact ⟨fun h => by omega, fun _ => rfl, by omega⟩
  · have e : x.tmod n = -((-x) % n) := by
      rw [← Int.tmod_eq_emod_of_nonneg (b := n) (show 0 ≤ -x by omega), Int.neg_tmod]
      omega
    have m0 := Int.emod_nonneg (-x) (show n ≠ 0 by omega)
    have m1 := Int.emod_lt_of_pos (-x) (show 0 < n by omega)
    have hd := Int.mul_ediv_add_emod (-x) n
    have hz : (-x) % n = 0 → x % n = 0 := fun h => by
      rw [h] at hd
      rw [show x = n * (-((-x) / n)) by rw [Int.mul_neg]; omega]
      exact Int.mul_emod_right n _
    have hp : 0 < (-x) % n → x % n = n - (-x) % n := fun h => by
      have e2 : x = (n - (-x) % n) + n * (-((-x) / n) - 1) := by
        rw [Int.mul_sub, Int.mul_neg, Int.mul_one]
        omega
      conv => lhs; rw [e2]
      rw [Int.add_mul_emod_self_left, Int.emod_eq_of_lt (by omega) (by omega)]
    rw [e]
    refine ⟨fun h => ?_, fun h => ?_, by omega⟩
    · rw [hp (by omega)]; omega
    · have : (-x) % n = 0 := by omega
      rw [hz this, this]
      rfl
theorem BelowR_ok (x n : Int) (h1 : 1 ≤ n) (h2 : n ≤ 1000000) : OkF Try.prog 49 [.int .i64 x, .int .i64 n] (.int .i64 (x % n), []) := by
  refine OkF.W0 hm h49 (of_decide_eq_true rfl) ?_
  unfold c49
  have n0 : ¬ n = 0 := by omega
  have m1 := Int.emod_nonneg x n0
  have m2 := Int.emod_lt_of_pos x (show 0 < n by omega)
  obtain ⟨b1, b2, b3⟩ := below_math x n h1
  by_cases q : x.tmod n < 0
  · have e : IntKind.i64.wrap (x.tmod n + n) = x % n := by rw [b1 q]; exact w_i64 (by omega) (by omega)
    simp -dsimp [n0, q, e]
  · have e := b2 q
    have q' : ¬ x % n < 0 := by omega
    simp -dsimp [n0, e, q']
theorem acc_st {α : Type} {d : Cd α} {h : Hp} {nx : Nat} {v : V} {l : List α} (a : Acc d h nx v l) : v.cells = [v] ∧ v.storable = true := by
  rcases a.isV with rfl | ⟨_, _, _, _, rfl⟩ <;> exact ⟨rfl, rfl⟩
theorem toRO_agg2 {h : Hp} {nx n : Nat} {v1 v2 : V} {l1 l2 : List Int} (a1 : Acc ic h nx v1 l1) (a2 : Acc ic h nx v2 l2) : toRO h (n + 1) (.agg [v1, v2]) = some (bkV (l1, l2)) := by
  have c1 := a1.cell (n := n)
  have c2 := a2.cell (n := n)
  have hp : V.pureL [v1, v2] = false := by
    rcases a1.isV with rfl | ⟨_, _, _, _, rfl⟩ <;> rfl
  unfold toRO
  simp only [hp]
  simp [c1, c2]
def wsL (l : List Int) : Nat → List Int
  | 0 => []
  | k + 1 => wsL l k ++ [lAt l k % 65536]
theorem wsL_len (l : List Int) : ∀ k, (wsL l k).length = k
  | 0 => rfl
  | k + 1 => by simp [wsL, wsL_len l k]
theorem wsL_in (l : List Int) : ∀ k, ∀ w ∈ wsL l k, inW w
  | 0, w, h => by simp [wsL] at h
  | k + 1, w, h => by
    unfold wsL at h
    rw [List.mem_append, List.mem_singleton] at h
    rcases h with h | rfl
    · exact wsL_in l k w h
    · unfold inW; omega
def fAt (l : List Flip) (k : Nat) : Flip := (l[k]?).getD (0, 0, 0)
theorem get_fAt {l : List Flip} {k : Nat} (h : k < l.length) : l[k]? = some (fAt l k) := by unfold fAt; rw [List.getElem?_eq_getElem h]; rfl
def fs1 (l : List Flip) (ev n k : Nat) : Flip := (((ev * k + 1 : Nat) : Int) + (fAt l k).1 % (ev : Int), (fAt l k).2.1 % (n : Int), 1 + (fAt l k).2.2 % 22)
def fsL (l : List Flip) (ev n : Nat) : Nat → List Flip
  | 0 => []
  | k + 1 => fsL l ev n k ++ [fs1 l ev n k]
theorem fsL_len (l : List Flip) (ev n : Nat) : ∀ k, (fsL l ev n k).length = k
  | 0 => rfl
  | k + 1 => by simp [fsL, fsL_len l ev n k]
theorem fsL_get (l : List Flip) (ev n : Nat) : ∀ k i x, (fsL l ev n k)[i]? = some x → x = fs1 l ev n i ∧ i < k
  | 0, i, x, h => by simp [fsL] at h
  | k + 1, i, x, h => by
    unfold fsL at h
    rcases Nat.lt_trichotomy i k with q | q | q
    · rw [List.getElem?_append_left (by rw [fsL_len]; omega)] at h
      have := fsL_get l ev n k i x h
      exact ⟨this.1, by omega⟩
    · subst q
      rw [List.getElem?_append_right (by rw [fsL_len]; omega), fsL_len] at h
      simp at h
      exact ⟨h.symm, by omega⟩
    · rw [List.getElem?_eq_none (by simp [fsL_len]; omega)] at h
      cases h
theorem fsL_spread {l : List Flip} {ev n k : Nat} (he : 1 ≤ ev) (he2 : ev ≤ 20) (hn : 1 ≤ n) (hk : k ≤ 50) : Spread n ev (fsL l ev n k) := by
  refine ⟨fun i x h => ?_⟩
  obtain ⟨rfl, hi⟩ := fsL_get l ev n k i x h
  have a0 := Int.emod_nonneg (fAt l i).1 (show (ev : Int) ≠ 0 by omega)
  have a1 := Int.emod_lt_of_pos (fAt l i).1 (show (0 : Int) < ev by omega)
  have b0 := Int.emod_nonneg (fAt l i).2.1 (show (n : Int) ≠ 0 by omega)
  have b1 := Int.emod_lt_of_pos (fAt l i).2.1 (show (0 : Int) < n by omega)
  have hm : ev * i ≤ 20 * 50 := Nat.mul_le_mul he2 (by omega)
  have hs : ev * (i + 1) = ev * i + ev := Nat.mul_succ ..
  rw [hs]
  unfold fs1
  refine ⟨⟨by simp only; omega, by simp only; omega, b0, b1, by simp only; omega, by simp only; omega⟩, by simp only; omega, by simp only; omega⟩
structure T1 (h : Hp) (nx : Nat) (w : List Int) : Prop where
  ex : ∃ v1 v2, h 0 = some ⟨0, 0, [v1, v2], none⟩ ∧ Acc ic h nx v1 (cods w) ∧ Acc ic h nx v2 w ∧ (∀ j, ownOf v1 = some j → 1 ≤ j) ∧ (∀ j, ownOf v2 = some j → 1 ≤ j) ∧ ∀ j, ownOf v1 = some j → ownOf v2 ≠ some j
theorem t1_nil {h : Hp} {nx : Nat} (hh : h 0 = some ⟨0, 0, [.ns, .ns], none⟩) : T1 h nx [] := by
  refine ⟨.ns, .ns, hh, Acc.nil _ _, Acc.nil _ _, ?_, ?_, ?_⟩ <;> intro j hj <;> cases hj
theorem words_loop {words : List Int} (hw : words.length * 8 ≤ 140737488351232) {Q : E → St → Prop} {t : St} {ev0 : Int} {l : List Flip} (h0 : t.t 0 = rI words) (h1 : t.t 1 = .int .i64 ev0) (h2 : t.t 2 = rF l) (h7 : t.t 7 = .pt 0 0 0) (h22 : t.t 22 = rI words) (h23 : t.t 23 = .int .i64 words.length) (h24 : t.t 24 = .int .i64 0) (hh : t.h 0 = some ⟨0, 0, [.ns, .ns], none⟩) (hnx : 1 ≤ t.nx)
    (hQ : ∀ t' : St, t'.t 0 = rI words → t'.t 1 = .int .i64 ev0 → t'.t 2 = rF l → t'.t 7 = .pt 0 0 0 → 1 ≤ t'.nx → T1 t'.h t'.nx (wsL words words.length) → Q (.exit 0) t') : LP Try.prog l12_0 Q t ⟨⟩ ⟨⟩ := by
  have e62 := Go.Ex.e62
  refine for_lt words.length (fun k t => t.t 0 = rI words ∧ t.t 1 = .int .i64 ev0 ∧ t.t 2 = rF l ∧ t.t 7 = .pt 0 0 0 ∧ t.t 22 = rI words ∧ 1 ≤ t.nx ∧ T1 t.h t.nx (wsL words k)) rfl (by omega) ⟨h0, h1, h2, h7, h22, hnx, t1_nil hh⟩ h24 h23 (fun k t hk hI hi hn => ?_) (fun t hI hi hn => ?_)
  · obtain ⟨i0, i1, i2, i7, i22, inx, ⟨v1, v2, hb, a1, a2, o1, o2, dd⟩⟩ := hI
    have hg := get_lAt hk
    have hS : wsL words (k + 1) = wsL words k ++ [lAt words k % 65536] := rfl
    have hSc : cods (wsL words (k + 1)) = cods (wsL words k) ++ [codI (lAt words k % 65536)] := by rw [hS]; simp [cods]
    have hlen := wsL_len words k
    have hlc := cods_len (wsL words k)
    have hin : inW (lAt words k % 65536) := by unfold inW; omega
    have hcd := Coded_ok (lAt words k % 65536)
    rw [codE_codI hin] at hcd
    have hbl := BelowR_ok (lAt words k) 65536 (by decide) (by decide)
    generalize lAt words k % 65536 = w at *
    generalize wsL words k = ws at *
    generalize lAt words k = x at *
    have n0 : ¬ t.nx = 0 := by omega
    have n0' : ¬ 0 = t.nx := by omega
    unfold k12_0
    simp -dsimp [i0, i1, i2, i7, i22, hi, hn, i_ia hg, i_ld hg]
    refine call_pure hbl (by simp) rfl ?_
    simp -dsimp
    refine call_pure hcd (by simp) (by simp) ?_
    simp -dsimp [i7, hb, fillA, n0, n0']
    refine push_accW (x := codI w) a1 rfl rfl (by omega) (by omega) fun v1' h' nx' i b1 b2 b3 b4 b5 b6 => ?_
    have hb' : h' 0 = some ⟨0, 0, [v1, v2], none⟩ := by rw [b3 0 (by omega) (fun e => by have := o1 0 e; omega), hb]
    have hi1 : 1 ≤ i := by
      rcases b5 with e | e
      · exact o1 i e
      · omega
    have hi2 : i < nx' := b1.own b6
    have a2' : Acc ic h' nx' v2 ws := a2.keep (by omega) fun j hj ho => b3 j hj (fun e => dd j e ho)
    have m1 : ¬ i = 0 := by omega
    have m1' : ¬ 0 = i := by omega
    have m2 : ¬ i = nx' := by omega
    have m2' : ¬ nx' = i := by omega
    have m3 : ¬ nx' = 0 := by omega
    have m3' : ¬ 0 = nx' := by omega
    have m4 : ¬ t.nx = nx' := by omega
    have m4' : ¬ nx' = t.nx := by omega
    simp -dsimp [i7, hb', fillA, n0, n0', m1, m1', m2, m2', m3, m3', m4, m4']
    refine push_accW (x := w) a2' rfl rfl (by omega) (by omega) fun v2' h2 nx2 ix2 c1 c2 c3 c4 c5 c6 => ?_
    have hb2 : h2 0 = some ⟨0, 0, [v1, v2], none⟩ := by rw [c3 0 (by omega) (fun e => by have := o2 0 e; omega), hb']
    obtain ⟨s1, s2⟩ := acc_st b1
    obtain ⟨s3, s4⟩ := acc_st c1
    simp -dsimp [-V.cells, -V.storable, i7, hb2, s1, s2, s3, s4, hi, hn, i0, i1, i2, i22]
    have own1 : ∀ j, ownOf v1' = some j → 1 ≤ j ∧ j < nx' := fun j hj => ⟨by
      rcases b4 j hj with e | e
      · exact o1 j e
      · omega, b1.own hj⟩
    have own2 : ∀ j, ownOf v2' = some j → 1 ≤ j := fun j hj => by
      rcases c4 j hj with e | e
      · exact o2 j e
      · omega
    have hd : ∀ j, ownOf v1' = some j → ownOf v2 ≠ some j := fun j hj e => by
      rcases b4 j hj with q | q
      · exact dd j q e
      · have := a2.own e; omega
    have hd' : ∀ j, ownOf v1' = some j → ownOf v2' ≠ some j := fun j hj e => by
      rcases c4 j e with q | q
      · exact hd j hj q
      · have := (own1 j hj).2; omega
    refine ⟨by omega, ⟨v1', v2', ?_, ?_, ?_, fun j hj => (own1 j hj).1, own2, hd'⟩⟩
    · simp [upd]
    · rw [hSc]
      have := b1.keep (h' := h2) (nx' := nx2) (by omega) fun j hj ho => c3 j hj (hd j ho)
      exact this.keep (Nat.le_refl _) fun j hj ho => by
        have := (own1 j ho).1
        simp only [upd]
        rw [if_neg (by omega), if_neg (by omega)]
    · rw [hS]
      exact c1.keep (Nat.le_refl _) fun j hj ho => by
        have := own2 j ho
        simp only [upd]
        rw [if_neg (by omega), if_neg (by omega)]
  · obtain ⟨i0, i1, i2, i7, i22, inx, hT⟩ := hI
    refine hQ _ ?_ ?_ ?_ ?_ inx hT <;> simp -dsimp [i0, i1, i2, i7]
theorem T1.mono {h h' : Hp} {nx nx' : Nat} {w : List Int} (a : T1 h nx w) (h0 : 1 ≤ nx) (hn : nx ≤ nx') (hh : ∀ j, j < nx → h' j = h j) : T1 h' nx' w := by
  obtain ⟨v1, v2, b, a1, a2, o1, o2, dd⟩ := a
  exact ⟨v1, v2, by rw [hh 0 (by omega)]; exact b, a1.mono hn hh, a2.mono hn hh, o1, o2, dd⟩
structure F2 (words : List Int) (l : List Flip) (ev : Nat) (ws : List Int) (k : Nat) (t : St) : Prop where
  t0 : t.t 0 = rI words
  t1 : t.t 1 = .int .i64 (ev : Int)
  t7 : t.t 7 = .pt 0 0 0
  ex : ∃ nx0 h0, 1 ≤ nx0 ∧ T1 h0 nx0 ws ∧ nx0 ≤ t.nx ∧ (∀ j, j < nx0 → t.h j = h0 j) ∧ Acc flipCd t.h t.nx (t.t 12) (fsL l ev words.length k) ∧ ∀ j, ownOf (t.t 12) = some j → nx0 ≤ j
theorem flips_loop {words : List Int} {l : List Flip} {ev : Nat} {ws : List Int} (hn0 : 1 ≤ words.length) (hn1 : words.length ≤ 50) (he : 1 ≤ ev) (he2 : ev ≤ 20) (hl : l.length < 2 ^ 62) {Q : E → St → Prop} {t : St} (hF : F2 words l ev ws 0 t) (h62 : t.t 62 = rF l) (h63 : t.t 63 = .int .i64 l.length) (h64 : t.t 64 = .int .i64 0)
    (hQ : ∀ t' : St, F2 words l ev ws (min 50 l.length) t' → Q (.exit 2) t') : LP Try.prog l12_1 Q t ⟨⟩ ⟨⟩ := by
  have e62 := Go.Ex.e62
  refine for_lt l.length (fun k t => k ≤ 50 ∧ t.t 62 = rF l ∧ F2 words l ev ws k t) rfl hl ⟨by omega, h62, hF⟩ h64 h63 (fun k t hk hI hi hn => ?_) (fun t hI hi hn => ?_)
  · obtain ⟨k50, i62, ⟨i0, i1, i7, ⟨nx0, h0, p0, p1, p2, p3, p4, p5⟩⟩⟩ := hI
    have hg := get_fAt hk
    have hS : fsL l ev words.length (k + 1) = fsL l ev words.length k ++ [(((ev * k + 1 : Nat) : Int) + (fAt l k).1 % (ev : Int), (fAt l k).2.1 % (words.length : Int), 1 + (fAt l k).2.2 % 22)] := rfl
    have hlen := fsL_len l ev words.length k
    have b1 := BelowR_ok (fAt l k).1 (ev : Int) (by omega) (by omega)
    have b2 := BelowR_ok (fAt l k).2.1 (words.length : Int) (by omega) (by omega)
    have b3 := BelowR_ok (fAt l k).2.2 22 (by decide) (by decide)
    have a0 := Int.emod_nonneg (fAt l k).1 (show (ev : Int) ≠ 0 by omega)
    have a1 := Int.emod_lt_of_pos (fAt l k).1 (show (0 : Int) < ev by omega)
    have hm : ev * k ≤ 20 * 50 := Nat.mul_le_mul he2 k50
    have m0 : ((ev : Int) * (k : Int)) = ((ev * k : Nat) : Int) := by rw [Int.natCast_mul]
    have w1 : IntKind.i64.wrap ((ev : Int) * (k : Int)) = ((ev * k : Nat) : Int) := by rw [m0]; exact w_i64 (by omega) (by omega)
    have w2 : IntKind.i64.wrap (((ev * k : Nat) : Int) + 1) = ((ev * k + 1 : Nat) : Int) := by rw [w_i64 (by omega) (by omega)]; omega
    have w3 : IntKind.i64.wrap (((ev * k + 1 : Nat) : Int) + (fAt l k).1 % (ev : Int)) = ((ev * k + 1 : Nat) : Int) + (fAt l k).1 % (ev : Int) := w_i64 (by omega) (by omega)
    have w4 : IntKind.i64.wrap (1 + (fAt l k).2.2 % 22) = 1 + (fAt l k).2.2 % 22 := w_i64 (by omega) (by omega)
    generalize fAt l k = x at *
    generalize hek1 : ev * k + 1 = ek1 at *
    generalize ev * k = ek at *
    have n0 : ¬ t.nx = 0 := by omega
    unfold k12_1
    simp -dsimp [i0, i1, i7, i62, hi, hn, f_ia hg, f_ld hg]
    by_cases q : 50 ≤ k
    · have q' : (50 : Int) ≤ (k : Int) := by omega
      have hk50 : k = 50 := by omega
      simp -dsimp [q, q']
      refine hQ _ ?_
      rw [Nat.min_eq_left (by omega)]
      subst hk50
      refine ⟨by simp -dsimp [i0], by simp -dsimp [i1], by simp -dsimp [i7], ⟨nx0, h0, p0, p1, by simp -dsimp; omega, fun j hj => ?_, ?_, by simpa using p5⟩⟩
      · simp only [upd]
        rw [if_neg (by omega), if_neg (by omega), p3 j hj]
      · simp -dsimp
        exact p4.mono (by omega) fun j hj => by simp only [upd]; rw [if_neg (by omega), if_neg (by omega)]
    · have q' : ¬ (50 : Int) ≤ (k : Int) := by omega
      simp -dsimp [q, q', i0, i1, w1, w2]
      refine call_pure b1 ?_ rfl ?_
      · simp
      simp -dsimp [w3, i0]
      refine call_pure b2 ?_ rfl ?_
      · simp
      simp -dsimp
      refine call_pure b3 ?_ rfl ?_
      · simp
      simp -dsimp [w4, fillS, fillA]
      generalize hh : upd (upd t.h t.nx _) t.nx _ = h1
      have hr1 : ∀ j, j < t.nx → h1 j = t.h j := fun j hj => by rw [← hh]; simp only [upd]; rw [if_neg (by omega), if_neg (by omega)]
      have hA : Acc flipCd h1 (t.nx + 1) (t.t 12) (fsL l ev words.length k) := p4.mono (by omega) hr1
      refine push_accW (x := ((ek1 : Int) + x.1 % (ev : Int), x.2.1 % (words.length : Int), 1 + x.2.2 % 22)) hA rfl rfl (by omega) (by omega) fun v' h' nx' ix c1 c2 c3 c4 _ _ => ?_
      simp -dsimp [hi, hn, i0, i1, i7, i62]
      refine ⟨by omega, by simp -dsimp [i0], by simp -dsimp [i1], by simp -dsimp [i7], ⟨nx0, h0, p0, p1, by simp -dsimp; omega, fun j hj => ?_, by rw [hS]; simp -dsimp [c1], fun j hj => ?_⟩⟩
      · simp only
        rw [c3 j (by omega) (fun e => by have := p5 j e; omega), hr1 j (by omega), p3 j hj]
      · simp at hj
        rcases c4 j hj with e | e
        · exact p5 j e
        · omega
  · obtain ⟨k50, i62, ⟨i0, i1, i7, ⟨nx0, h0, p0, p1, p2, p3, p4, p5⟩⟩⟩ := hI
    refine hQ _ ?_
    rw [Nat.min_eq_right k50]
    exact ⟨by simp -dsimp [i0], by simp -dsimp [i1], by simp -dsimp [i7], ⟨nx0, h0, p0, p1, p2, p3, p4, p5⟩⟩
theorem MemoryScrubbedInTimeKeepsAll (words : List Int) (ev0 : Int) (l : List Flip) (hw : words.length * 8 ≤ 140737488351232) (hl : l.length < 2 ^ 62) : OkF Try.prog 12 [rI words, .int .i64 ev0, rF l] (.bool true, []) := by
  refine OkF.W0 hm h12 (of_decide_eq_true rfl) ?_
  unfold c12
  simp -dsimp
  refine words_loop (words := words) (ev0 := ev0) (l := l) hw (by simp -dsimp) (by simp -dsimp) (by simp -dsimp) (by simp -dsimp) (by simp -dsimp) (by simp -dsimp) (by simp -dsimp) (by simp -dsimp) (by simp -dsimp) fun t i0 i1 i2 i7 inx hT => ?_
  simp -dsimp [i0]
  by_cases g0 : words.length = 0
  · have g0' : words = [] := List.eq_nil_of_length_eq_zero g0
    simp -dsimp [g0']
    refine call_pure awake_ok ?_ rfl ?_
    · simp
    simp -dsimp
  have g0' : ¬ words = [] := fun e => g0 (by rw [e]; rfl)
  by_cases g1 : 50 < words.length
  · have g1' : (50 : Int) < (words.length : Int) := by omega
    simp -dsimp [g0', g1, g1', i0]
    refine call_pure awake_ok ?_ rfl ?_
    · simp
    simp -dsimp
  have g1' : ¬ (50 : Int) < (words.length : Int) := by omega
  have hb := BelowR_ok ev0 20 (by decide) (by decide)
  obtain ⟨ev, hev, he, he2⟩ : ∃ ev : Nat, 1 + ev0 % 20 = (ev : Int) ∧ 1 ≤ ev ∧ ev ≤ 20 := ⟨(1 + ev0 % 20).toNat, by omega, by omega, by omega⟩
  have w0 : IntKind.i64.wrap (1 + ev0 % 20) = (ev : Int) := by rw [← hev]; exact w_i64 (by omega) (by omega)
  simp -dsimp [g0', g1, g1', i0, i1]
  refine call_pure hb ?_ rfl ?_
  · simp
  simp -dsimp [w0, i2]
  have hwi := wsL_in words words.length
  have hwl := wsL_len words words.length
  generalize wsL words words.length = ws at *
  refine flips_loop (words := words) (l := l) (ev := ev) (ws := ws) (by omega) (by omega) he he2 hl ⟨by simp -dsimp [i0], by simp -dsimp, by simp -dsimp [i7], ⟨t.nx, t.h, inx, hT, Nat.le_refl _, fun _ _ => rfl, by simp -dsimp [fsL, Acc.nil], fun j hj => by simp [ownOf] at hj⟩⟩ (by simp -dsimp) (by simp -dsimp) (by simp -dsimp) fun t1 hF => ?_
  obtain ⟨i0, i1, i7, ⟨nx0, hh0, p0, p1, p2, p3, p4, p5⟩⟩ := hF
  have hsp := fsL_spread (l := l) (ev := ev) (n := words.length) (k := min 50 l.length) he he2 (by omega) (by omega)
  have hfl := fsL_len l ev words.length (min 50 l.length)
  generalize fsL l ev words.length (min 50 l.length) = fs at *
  have hf50 : fs.length ≤ 50 := by omega
  have p1' : T1 t1.h t1.nx ws := p1.mono p0 p2 p3
  obtain ⟨v1, v2, hb0, a1, a2, o1, o2, dd⟩ := p1'
  have hlA := p4.len
  have hm : ev * fs.length ≤ 20 * 50 := Nat.mul_le_mul he2 hf50
  have m0 : ((ev : Int) * (fs.length : Int)) = ((ev * fs.length : Nat) : Int) := by rw [Int.natCast_mul]
  have w1 : IntKind.i64.wrap ((ev : Int) * (fs.length : Int)) = ((ev * fs.length : Nat) : Int) := by rw [m0]; exact w_i64 (by omega) (by omega)
  have w2 : IntKind.i64.wrap (((ev * fs.length : Nat) : Int) + 1) = ((ev * fs.length + 1 : Nat) : Int) := by rw [w_i64 (by omega) (by omega)]; omega
  have d2 : ((ev * fs.length : Nat) : Int).tdiv 2 = ((ev * fs.length / 2 : Nat) : Int) := by rw [Int.tdiv_eq_ediv_of_nonneg (by omega)]; omega
  have w3 : IntKind.i64.wrap ((ev * fs.length / 2 : Nat) : Int) = ((ev * fs.length / 2 : Nat) : Int) := w_i64 (by omega) (by omega)
  have hL : ∀ u : Nat, u ≤ 2000 → lostS (cods ws, ws) (((ev : Nat) : Int), ((words.length : Nat) : Int)) fs u = ([], 0) ∧ wrongS (cods ws, ws) (((ev : Nat) : Int), ((words.length : Nat) : Int)) fs u = ([], 0) := fun u hu => by
    have := spread_lost (ws := ws) (u := u) (by omega) (by omega) hwi (by rw [hwl]; exact hsp) he he2 hf50 hu
    rwa [hwl] at this
  obtain ⟨us, hus⟩ : ∃ us : List Nat, us = [ev * fs.length, ev * fs.length + 1, ev * fs.length / 2] := ⟨_, rfl⟩
  have husl : ∀ u ∈ us, u ≤ 2000 := by
    rw [hus]
    intro u hu
    simp at hu
    omega
  have husc : [V.int .i64 ((ev * fs.length : Nat) : Int), V.int .i64 ((ev * fs.length + 1 : Nat) : Int), V.int .i64 ((ev * fs.length / 2 : Nat) : Int)] = us.map fun n : Nat => V.int .i64 (n : Int) := by rw [hus]; rfl
  have hlen3 : us.length = 3 := by rw [hus]; rfl
  clear hus
  generalize ev * fs.length / 2 = u2 at *
  generalize ev * fs.length + 1 = u1 at *
  generalize ev * fs.length = u0 at *
  have n0 : ¬ 0 = t1.nx := by omega
  have n1 : ¬ t1.nx = 0 := by omega
  simp -dsimp [i0, i1, hlA, w1, w2, d2, w3, fillS, fillA, husc]
  refine for_lt 3 (fun k s => s.t 7 = .pt 0 0 0 ∧ s.t 12 = t1.t 12 ∧ s.t 15 = .pt t1.nx 0 0 ∧ s.t 112 = .sl (t1.nx + 1) 0 0 3 (some 3) ∧ t1.nx ≤ s.nx ∧ (∀ j, j < t1.nx → s.h j = t1.h j) ∧ s.h t1.nx = some ⟨0, 0, [.int .i64 ev, .int .i64 words.length], none⟩ ∧ s.h (t1.nx + 1) = some ⟨0, 1, us.map fun n : Nat => V.int .i64 (n : Int), none⟩) rfl (by decide) ?_ (by simp -dsimp) (by simp -dsimp) (fun k s hk hI hi hn => ?_) (fun s hI hi hn => ?_)
  · refine ⟨by simp -dsimp [i7], by simp -dsimp, by simp -dsimp, by simp -dsimp, by simp -dsimp; omega, fun j hj => ?_, by simp -dsimp, by simp -dsimp⟩
    simp only [upd]
    rw [if_neg (by omega), if_neg (by omega), if_neg (by omega)]
  · obtain ⟨i7, i12, i15, i112, inx, hrest, hr, hu⟩ := hI
    obtain ⟨u, hgu⟩ : ∃ u, us[k]? = some u := ⟨_, List.getElem?_eq_getElem (by omega)⟩
    obtain ⟨l1, l2⟩ := hL u (husl u (List.mem_of_getElem? hgu))
    have hlo := Lost_ok (cods ws, ws) (((ev : Nat) : Int), ((words.length : Nat) : Int)) fs (u : Int)
    have hwr := Wrong_ok (cods ws, ws) (((ev : Nat) : Int), ((words.length : Nat) : Int)) fs (u : Int)
    rw [l1] at hlo
    rw [l2] at hwr
    have b0 : s.h 0 = some ⟨0, 0, [v1, v2], none⟩ := by rw [hrest 0 (by omega), hb0]
    have a1' : Acc ic s.h s.nx v1 (cods ws) := a1.mono inx hrest
    have a2' : Acc ic s.h s.nx v2 ws := a2.mono inx hrest
    have hro1 : toRO s.h 8 (.agg [v1, v2]) = some (bkV (cods ws, ws)) := toRO_agg2 a1' a2'
    have hro2 : toRO s.h 8 (t1.t 12) = some (rF fs) := (p4.mono inx hrest).ro
    have eia : ∀ K, iaddrK s.h (.sl (t1.nx + 1) 0 0 3 (some 3)) (.int .i64 k) 1 K ⟨⟩ = K (.pt (t1.nx + 1) 0 k) [t1.nx + 1] := fun K => by
      rw [iaddr_sl hu rfl hk, Nat.zero_add, Nat.mul_one]
    have eld : ldA s.h (.pt (t1.nx + 1) 0 k) none = some (.int .i64 (u : Int)) := by
      rw [ld_pt', hu]
      simp [List.getElem?_map, hgu]
    have hrf : roFree (.tup [rI ([] : List Int), .int .i64 0]) = true := rfl
    unfold k12_2
    simp -dsimp [i7, i12, i15, i112, hi, hn, eia, eld, b0, hr, hro1, hro2]
    refine call_one hlo (by simp only [okRes, hrf]; simp) ?_
    simp -dsimp [i7, i12, i15, b0, hr, hro1, hro2]
    refine call_one hwr (by simp only [okRes, hrf]; simp) ?_
    simp -dsimp [i7, i12, i15, i112, hi, hn]
    exact ⟨inx, hrest, hr, hu⟩
  · simp -dsimp
    refine call_pure awake_ok ?_ rfl ?_
    · simp
    simp -dsimp
end Go.Proofs.P3
