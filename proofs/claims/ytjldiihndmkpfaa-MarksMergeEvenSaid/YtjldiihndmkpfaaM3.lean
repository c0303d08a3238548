/- slices.Concat of two rows of marks; Rows of marks written in place: what the sort swaps and turns; Stretches of a row that change places; Sorting by insertion; Merging two sorted stretches: plain; The searches of symMerge; What symMerge shifts; symMerge, whole; symMerge in general. -/
import Derived.Test.YtjldiihndmkpfaaV1
import Derived.Test.YtjldiihndmkpfaaP2G
section
set_option linter.unusedVariables false
set_option linter.unusedSimpArgs false
set_option maxRecDepth 10000
set_option maxHeartbeats 4000000
namespace Go.Proofs.P3
open Go.Ex
def catV (b c : List Mark) : V × List LB := if (b ++ c).length = 0 then (.ro 0 [], []) else (.sl 0 0 0 (b ++ c).length none, [⟨0, 3, fl markCd (b ++ c), none⟩])
def rowsCd : Cd (List Mark) := .slice markCd
theorem OkF.W {sh : Nat → Bool} {f : Nat} {C : Cmd} {ts : List Nat} {nt : Nat} (hf : compF Try.prog sh f = some (C, ts, nt)) {args : List V} (nt0 : args.length ≤ nt) {r : V × List LB}
    (hw : Ex.W Try.prog C (fun e s => endK e (∃ own : List Nat, own.Nodup ∧ expV s.h own (resV ts s.t) = some r.1 ∧ own.mapM (expB s.h own) = some r.2)) ⟨initT args, none0, 0⟩ ⟨⟩ ⟨⟩) (hpb : ∀ b ∈ r.2, V.pureL b.cells = true ∧ b.mp = none) : OkF Try.prog f args r :=
  OkF.of hm hf nt0 (wpA_mono C (fun e s h => by cases e <;> exact h) hw) hpb
theorem app_exact {h : Hp} {nx id ver : Nat} {l l' : List Mark} {ids : List Nat} {K : V → Hp → Nat → Option (List Nat) → Option (List Nat) → Prop} (hb : h id = some ⟨ver, 3, fl markCd l, none⟩) (hl : l.length ≤ 10000) (hl' : l'.length ≤ 10000) :
    appK 3 24 (.sl id ver 0 l.length none) (some (l'.length, fl markCd l')) h nx ids K ⟨⟩ = K (.sl id (ver + 1) 0 (l ++ l').length none) (upd h id (some ⟨ver + 1, 3, fl markCd (l ++ l'), none⟩)) nx (some (id :: ids)) (some [id]) := by
  have e62 := Go.Ex.e62
  have e47 := Go.Ex.e47
  have hfl : (fl markCd l).length = l.length * 3 := flat_len l
  have ht : (fl markCd l).take (l.length * 3) = fl markCd l := List.take_of_length_le (by omega)
  simp only [appK, appA, hb]
  rw [if_pos ⟨trivial, trivial, trivial, by omega, by omega, by omega⟩]
  simp only [List.drop_zero, ht, fl_append, List.length_append, ite_self]
  rfl
def CatI (b c : List Mark) (k : Nat) (t : St) : Prop := t.t 25 = .ro 2 (fl rowsCd [b, c]) ∧ ∃ id ver, t.t 6 = .sl id ver 0 (([b, c].take k).flatten).length none ∧ t.h id = some ⟨ver, 3, fl markCd ([b, c].take k).flatten, none⟩
theorem concat_ok (b c : List Mark) (hb : b.length ≤ 5000) (hc : c.length ≤ 5000) : OkF Try.prog 79 [.ro 2 [.ro b.length (fl markCd b), .ro c.length (fl markCd c)]] (catV b c) := by
  have e62 := Go.Ex.e62
  have hfl : fl rowsCd [b, c] = [.ro b.length (fl markCd b), .ro c.length (fl markCd c)] := rfl
  rw [← hfl]
  refine OkF.W h79 (of_decide_eq_true rfl) ?_ (fun q hq => ?_)
  · unfold c79
    simp -dsimp
    refine for_lt 2 (fun k t => t.t 9 = .ro 2 (fl rowsCd [b, c]) ∧ t.t 0 = .ro 2 (fl rowsCd [b, c]) ∧ t.t 3 = .int .i64 (([b, c].take k).flatten).length ∧ t.h = none0 ∧ t.nx = 0) rfl (by decide) (by simp -dsimp) (by simp -dsimp) (by simp -dsimp) (fun k t hk hI hi hn => ?_) (fun t hI hi hn => ?_)
    · obtain ⟨i9, i0, i3, ih, inx⟩ := hI
      have hk' : k < [b, c].length := hk
      have hg : [b, c][k]? = some [b, c][k] := List.getElem?_eq_getElem hk'
      have hx5 : [b, c][k].length ≤ 5000 := by
        have : k = 0 ∨ k = 1 := by omega
        rcases this with rfl | rfl
        · exact hb
        · exact hc
      have htk : ([b, c].take (k + 1)).flatten = ([b, c].take k).flatten ++ [b, c][k] := by
        rw [List.take_succ_eq_append_getElem hk', List.flatten_append]
        simp
      have hpre : (([b, c].take k).flatten).length ≤ 10000 := by
        have : k = 0 ∨ k = 1 := by omega
        rcases this with q | q <;> subst q <;> simp <;> omega
      generalize [b, c][k] = x at hg hx5 htk
      rw [htk]
      generalize ([b, c].take k).flatten = pre at i3 hpre
      have e1 : ∀ h K, iaddrK h (.ro 2 (fl rowsCd [b, c])) (.int .i64 k) 1 K ⟨⟩ = K (.rp (fl rowsCd [b, c]) k) [] := fun h K => by
        have := iaddr_fl (d := rowsCd) (n := 1) (kk := .i64) (h := h) (K := K) (l := [b, c]) rfl (by decide) hg
        rwa [Nat.mul_one] at this
      have e2 : ∀ h, ldA h (.rp (fl rowsCd [b, c]) k) none = some (.ro x.length (fl markCd x)) := fun h => by
        have := ld_fl0 (d := rowsCd) (n := 1) (h := h) (l := [b, c]) rfl (by decide) hg
        rw [Nat.mul_one] at this
        exact this
      have hw : IntKind.i64.wrap ((pre.length : Int) + (x.length : Int)) = (pre.length : Int) + (x.length : Int) := IntWalk.i64_in _ (by omega)
      have hpos : ¬ ((pre.length : Int) + (x.length : Int) < 0) := by omega
      unfold k79_0
      simp -dsimp [i9, i0, i3, hi, hn, e1, e2, hw, hpos, ih, inx]
    · obtain ⟨i9, i0, i3, ih, inx⟩ := hI
      have hall : ([b, c].take 2).flatten = b ++ c := by simp
      rw [hall] at i3
      simp -dsimp [i3, ih, inx]
      by_cases hz : (b ++ c).length = 0
      · have hb0 : b = [] := by simp at hz; exact hz.1
        have hc0 : c = [] := by simp at hz; exact hz.2
        subst hb0 hc0
        simp -dsimp
        refine ⟨_, _, _, grow0_ok, ?_⟩
        simp -dsimp [i0]
        refine for_lt 2 (fun k t => t.t 25 = .ro 2 (fl rowsCd [[], []]) ∧ t.t 6 = .ns) rfl (by decide) (by simp -dsimp) (by simp -dsimp) (by simp -dsimp) (fun k t hk hI hi hn => ?_) (fun t hI hi hn => ?_)
        · obtain ⟨j25, j6⟩ := hI
          have hg : [([] : List Mark), []][k]? = some [] := by
            have : k = 0 ∨ k = 1 := by omega
            rcases this with rfl | rfl <;> rfl
          have e1 : ∀ h K, iaddrK h (.ro 2 (fl rowsCd [[], []])) (.int .i64 k) 1 K ⟨⟩ = K (.rp (fl rowsCd [[], []]) k) [] := fun h K => by
            have := iaddr_fl (d := rowsCd) (n := 1) (kk := .i64) (h := h) (K := K) (l := [[], []]) rfl (by decide) hg
            rwa [Nat.mul_one] at this
          have e2 : ∀ h, ldA h (.rp (fl rowsCd [[], []]) k) none = some (.ro 0 []) := fun h => by
            have := ld_fl0 (d := rowsCd) (n := 1) (h := h) (l := [[], []]) rfl (by decide) hg
            rw [Nat.mul_one] at this
            exact this
          have e3 : ∀ h nx ids K, appK 3 24 .ns (some (0, [])) h nx ids K ⟨⟩ = K .ns h nx (some ids) (some []) := fun h nx ids K => by
            simp [appK, appA, resK]
          unfold k79_1
          simp -dsimp [j25, j6, hi, hn, e1, e2, e3]
        · obtain ⟨j25, j6⟩ := hI
          simp -dsimp [j6]
          exact ⟨[], .nil, rfl, rfl⟩
      · have hpos : 0 < (b ++ c).length := by omega
        have hgr := grow_ok (h := none0) (nx := 0) (b ++ c).length hpos (by rw [List.length_append]; omega)
        rw [List.length_append] at hgr
        refine ⟨_, _, _, hgr, ?_⟩
        simp -dsimp [i0]
        refine for_lt 2 (CatI b c) rfl (by decide) ?_ (by simp -dsimp) (by simp -dsimp) (fun k t hk hI hi hn => ?_) (fun t hI hi hn => ?_)
        · exact ⟨by simp -dsimp, 0, 0, by simp -dsimp, by simp -dsimp [fl_nil]⟩
        · obtain ⟨j25, id, ver, j6, jh⟩ := hI
          have hk' : k < [b, c].length := hk
          have hg : [b, c][k]? = some [b, c][k] := List.getElem?_eq_getElem hk'
          have hx5 : [b, c][k].length ≤ 5000 := by
            have : k = 0 ∨ k = 1 := by omega
            rcases this with rfl | rfl
            · exact hb
            · exact hc
          have htk : ([b, c].take (k + 1)).flatten = ([b, c].take k).flatten ++ [b, c][k] := by
            rw [List.take_succ_eq_append_getElem hk', List.flatten_append]
            simp
          have hpre : (([b, c].take k).flatten).length ≤ 10000 := by
            have : k = 0 ∨ k = 1 := by omega
            rcases this with q | q <;> subst q <;> simp <;> omega
          generalize [b, c][k] = x at hg hx5 htk
          have goal : ∀ t' : St, t'.t 25 = .ro 2 (fl rowsCd [b, c]) → t'.t 6 = .sl id (ver + 1) 0 (([b, c].take k).flatten ++ x).length none → t'.h = upd t.h id (some ⟨ver + 1, 3, fl markCd (([b, c].take k).flatten ++ x), none⟩) → CatI b c (k + 1) t' := fun t' h1 h2 h3 => by
            refine ⟨h1, id, ver + 1, ?_, ?_⟩
            · rw [htk]; exact h2
            · rw [htk, h3]; simp
          generalize ([b, c].take k).flatten = pre at j6 jh hpre goal
          have e1 : ∀ h K, iaddrK h (.ro 2 (fl rowsCd [b, c])) (.int .i64 k) 1 K ⟨⟩ = K (.rp (fl rowsCd [b, c]) k) [] := fun h K => by
            have := iaddr_fl (d := rowsCd) (n := 1) (kk := .i64) (h := h) (K := K) (l := [b, c]) rfl (by decide) hg
            rwa [Nat.mul_one] at this
          have e2 : ∀ h, ldA h (.rp (fl rowsCd [b, c]) k) none = some (.ro x.length (fl markCd x)) := fun h => by
            have := ld_fl0 (d := rowsCd) (n := 1) (h := h) (l := [b, c]) rfl (by decide) hg
            rw [Nat.mul_one] at this
            exact this
          have e3 : ∀ ids K, appK 3 24 (.sl id ver 0 pre.length none) (some (x.length, fl markCd x)) t.h t.nx ids K ⟨⟩ = K (.sl id (ver + 1) 0 (pre ++ x).length none) (upd t.h id (some ⟨ver + 1, 3, fl markCd (pre ++ x), none⟩)) t.nx (some (id :: ids)) (some [id]) := fun ids K => app_exact jh hpre (by omega)
          have hlx : (fl markCd x).length = x.length * 3 := flat_len x
          unfold k79_1
          simp -dsimp [j25, j6, hi, hn, e1, e2, hlx, e3]
          exact goal _ (by simp -dsimp [j25]) (by simp -dsimp) rfl
        · obtain ⟨j25, id, ver, j6, jh⟩ := hI
          have hall : ([b, c].take 2).flatten = b ++ c := by simp
          rw [hall] at j6 jh
          simp -dsimp [j6]
          have hv : catV b c = (.sl 0 0 0 (b ++ c).length none, [⟨0, 3, fl markCd (b ++ c), none⟩]) := by unfold catV; rw [if_neg hz]
          rw [hv]
          have hpure : V.pureL (fl markCd (b ++ c)) = true := fl_pure _
          refine ⟨[id], by simp, ?_, ?_⟩
          · simp only [expV, exp1, expC, resV, jh]
            simp [ixOf]
          · simp [expB, jh, roL, hpure]
  · unfold catV at hq
    split at hq
    · cases hq
    · simp at hq
      subst hq
      exact ⟨fl_pure _, rfl⟩
end Go.Proofs.P3
end
section
set_option linter.unusedVariables false
set_option linter.unusedSimpArgs false
set_option maxRecDepth 10000
set_option maxHeartbeats 8000000
namespace Go.Proofs.P3
open Go.Ex
abbrev rowB (ver : Nat) (l : List Mark) : Option LB := some ⟨ver, 3, fl markCd l, none⟩
theorem fl3 (x : Mark) (r : List Mark) : fl markCd (x :: r) = .int .i64 x.1 :: .int .i64 x.2.1 :: .int .i64 x.2.2 :: fl markCd r := rfl
theorem fl_put (x : Mark) : ∀ (l : List Mark) (k : Nat), k < l.length → putL (fl markCd l) (k * 3) [.int .i64 x.1, .int .i64 x.2.1, .int .i64 x.2.2] = fl markCd (l.set k x)
  | [], k, h => by simp at h
  | y :: l, 0, h => by simp [fl3, putL]
  | y :: l, k + 1, h => by
    have ih := fl_put x l k (by simpa using h)
    rw [List.set_cons_succ, fl3, fl3, ← ih, show (k + 1) * 3 = k * 3 + 1 + 1 + 1 by omega]
    simp only [putL, List.set_cons_succ]
theorem fl_len3 (l : List Mark) : (fl markCd l).length = l.length * 3 := flat_len l
section
variable {h : Hp} {id ver k : Nat} {kk : IntKind} {l : List Mark} {a x : Mark}
theorem r_ia {n : Nat} {cap : Option Nat} {K : V → List Nat → Prop} (hb : h id = rowB ver l) (hn : l.length = n) (e : l[k]? = some a) : iaddrK h (.sl id ver 0 n cap) (.int kk k) 3 K ⟨⟩ = K (.pt id ver (k * 3)) [id] := by
  have hk := (List.getElem?_eq_some_iff.1 e).1
  subst hn
  rw [iaddr_sl hb rfl hk, Nat.zero_add]
theorem r_ld (hb : h id = rowB ver l) (e : l[k]? = some a) : ldA h (.pt id ver (k * 3)) (some 3) = some (mkV a) := by
  rw [ld_pts hb, ← ld_rps (h := h), m_ld e]
theorem r_st {K : Nat → Hp → Prop} (hb : h id = rowB ver l) (hk : k < l.length) : stK h (.pt id ver (k * 3)) (mkV x) 3 K ⟨⟩ = K id (upd h id (rowB ver (l.set k x))) := by
  have e := fl_put x l k hk
  show _ = K id (upd h id (some ⟨ver, 3, fl markCd (l.set k x), none⟩))
  rw [← e, st_pt, hb, blkK_some]
  unfold guardK
  refine propext ⟨fun q => q.2, fun q => ⟨⟨rfl, rfl, rfl, ?_, rfl⟩, q⟩⟩
  show k * 3 + 3 ≤ (fl markCd l).length
  rw [fl_len3]
  omega
end
/-- What a sharing function leaves of a row. -/
def RowQ (id ver nx : Nat) (h : Hp) (R : List Mark → Prop) : V → Hp → Nat → Prop := fun _ h' nx' => nx ≤ nx' ∧ (∀ j, j < nx → j ≠ id → h' j = h j) ∧ ∃ l', R l' ∧ h' id = rowB ver l'
theorem cmp_body : hasBody Try.prog 81 = true := by kernel_rfl
theorem cmp_ex (x y : Mark) (hx : markOk x) (hy : markOk y) {h : Hp} {nx : Nat} : SEx Try.prog 81 ([mkV x, mkV y] ++ []) h nx (Quiet (.int .i64 (x.1 - y.1)) h nx) := by
  refine SEx.of hm h81 (of_decide_eq_true rfl) ?_
  unfold c81
  have w : IntKind.i64.wrap (x.1 - y.1) = x.1 - y.1 := w_i64 (by have := hx.1; have := hy.1; omega) (by have := hx.1; have := hy.1; omega)
  simp -dsimp [w]
  exact ⟨rfl, by omega, fun j hj => by simp only [upd]; rw [if_neg (by omega), if_neg (by omega)]⟩
abbrev cmpV : V := .fn 81 []
/-- Two stretches of equal length change places. -/
def swp (l : List Mark) (a b : Nat) : Nat → List Mark
  | 0 => l
  | k + 1 => ((swp l a b k).set (a + k) (mAt (swp l a b k) (b + k))).set (b + k) (mAt (swp l a b k) (a + k))
theorem swp_len (l : List Mark) (a b : Nat) : ∀ k, (swp l a b k).length = l.length
  | 0 => rfl
  | k + 1 => by simp [swp, swp_len l a b k]
def SW (id ver : Nat) (l : List Mark) (a b n nx : Nat) (h : Hp) (cap : Option Nat) (m : Nat) (t : St) : Prop := ∃ k : Nat, m = n - k ∧ k ≤ n ∧ t.t 10 = .int .i64 k ∧ t.t 0 = .sl id ver 0 l.length cap ∧ t.t 1 = .int .i64 a ∧ t.t 2 = .int .i64 b ∧ t.t 3 = .int .i64 n ∧ nx ≤ t.nx ∧ (∀ j, j < nx → j ≠ id → t.h j = h j) ∧ t.h id = rowB ver (swp l a b k)
theorem swap_ex {h : Hp} {id ver nx : Nat} {l : List Mark} {cap : Option Nat} (hb : h id = rowB ver l) (hid : id < nx) (hl : l.length ≤ 5000) {a b n : Nat} (hab : a + n ≤ b) (hbn : b + n ≤ l.length) :
    SEx Try.prog 153 [.sl id ver 0 l.length cap, .int .i64 a, .int .i64 b, .int .i64 n, cmpV] h nx (RowQ id ver nx h fun l' => l' = swp l a b n) := by
  refine SEx.of hm h153 (of_decide_eq_true rfl) ?_
  unfold c153
  simp -dsimp
  refine loop_dec (SW id ver l a b n nx h cap) n ?_ (fun m t hI => ?_)
  · exact ⟨0, rfl, by omega, by simp -dsimp, by simp -dsimp, by simp -dsimp, by simp -dsimp, by simp -dsimp, by simp -dsimp, fun j _ _ => by simp -dsimp, by simp -dsimp [hb, swp]⟩
  · obtain ⟨k, hn, hk, i10, i0, i1, i2, i3, inx, ih, ib⟩ := hI
    unfold l153_0
    by_cases hkn : k < n
    · have hk' : (k : Int) < (n : Int) := by omega
      have w1 : IntKind.i64.wrap ((a : Int) + (k : Int)) = ((a + k : Nat) : Int) := by rw [IntWalk.i64_in _ (by omega)]; simp
      have w2 : IntKind.i64.wrap ((b : Int) + (k : Int)) = ((b + k : Nat) : Int) := by rw [IntWalk.i64_in _ (by omega)]; simp
      have w3 : IntKind.i64.wrap ((k : Int) + 1) = ((k + 1 : Nat) : Int) := by rw [IntWalk.i64_in _ (by omega)]; simp
      have hlen := swp_len l a b k
      have e : swp l a b (k + 1) = ((swp l a b k).set (a + k) (mAt (swp l a b k) (b + k))).set (b + k) (mAt (swp l a b k) (a + k)) := rfl
      generalize swp l a b k = s at *
      rw [← hlen] at i0
      have ga := get_mAt (l := s) (k := a + k) (by omega)
      have gb := get_mAt (l := s) (k := b + k) (by omega)
      generalize mAt s (a + k) = x at *
      generalize mAt s (b + k) = y at *
      have hb2 : (upd t.h id (rowB ver (s.set (a + k) y))) id = rowB ver (s.set (a + k) y) := by simp
      generalize hA : a + k = ka at *
      generalize hB : b + k = kb at *
      obtain ⟨z, gz⟩ : ∃ z, (s.set ka y)[kb]? = some z := ⟨_, List.getElem?_eq_getElem (by simp; omega)⟩
      simp -dsimp [-st_pt, -V.cells, -V.storable, i10, i0, i1, i2, i3, hkn, hk', w1, w2, r_ia ib rfl ga, r_ia ib rfl gb, r_ld ib ga, r_ld ib gb, r_st ib (show ka < s.length by omega), r_ia hb2 (show (s.set ka y).length = s.length by simp) gz, r_st hb2 (show kb < (s.set ka y).length by simp; omega), w3]
      refine ⟨n - (k + 1), by omega, k + 1, rfl, by omega, by simp -dsimp, by simp -dsimp [i0, hlen], by simp -dsimp [i1], by simp -dsimp [i2], by simp -dsimp [i3], inx, fun j hj hne => ?_, ?_⟩
      · simp only [upd]
        rw [if_neg hne, if_neg hne]
        exact ih j hj hne
      · rw [e]
        simp
    · have hkn' : k = n := by omega
      subst hkn'
      simp -dsimp [i10, i3]
      exact ⟨inx, ih, _, rfl, ib⟩
end Go.Proofs.P3
end
section
set_option linter.unusedVariables false
set_option linter.unusedSimpArgs false
set_option maxRecDepth 10000
set_option maxHeartbeats 8000000
namespace Go.Proofs.P3
open Go.Ex
theorem swp_get {l : List Mark} {a b : Nat} : ∀ (k : Nat), a + k ≤ b → b + k ≤ l.length → ∀ i, (swp l a b k)[i]? = if a ≤ i ∧ i < a + k then l[b + (i - a)]? else if b ≤ i ∧ i < b + k then l[a + (i - b)]? else l[i]?
  | 0, _, _, i => by rw [if_neg (by omega), if_neg (by omega)]; rfl
  | k + 1, h1, h2, i => by
    have ih := swp_get (l := l) (a := a) (b := b) k (by omega) (by omega)
    have hlen := swp_len l a b k
    have e1 : (swp l a b k)[b + k]? = l[b + k]? := by rw [ih, if_neg (by omega), if_neg (by omega)]
    have e2 : (swp l a b k)[a + k]? = l[a + k]? := by rw [ih, if_neg (by omega), if_neg (by omega)]
    have g1 := get_mAt (l := swp l a b k) (k := b + k) (by omega)
    have g2 := get_mAt (l := swp l a b k) (k := a + k) (by omega)
    rw [e1] at g1
    rw [e2] at g2
    unfold swp
    rw [List.getElem?_set, List.getElem?_set, ih]
    by_cases c1 : b + k = i
    · subst c1
      rw [if_pos rfl, if_pos (by simp; omega), if_neg (by omega), if_pos (by omega), ← g2]
      congr 1; omega
    · rw [if_neg c1]
      by_cases c2 : a + k = i
      · subst c2
        rw [if_pos rfl, if_pos (by omega), if_pos (by omega), ← g1]
        congr 1; omega
      · rw [if_neg c2]
        by_cases c3 : a ≤ i ∧ i < a + k
        · rw [if_pos c3, if_pos (by omega)]
        · rw [if_neg c3, if_neg (show ¬ (a ≤ i ∧ i < a + (k + 1)) by omega)]
          by_cases c4 : b ≤ i ∧ i < b + k
          · rw [if_pos c4, if_pos (by omega)]
          · rw [if_neg c4, if_neg (by omega)]
theorem swp_app (p x y z q : List Mark) {a b n : Nat} (ha : p.length = a) (hx : x.length = n) (hz : z.length = n) (hb : a + n + y.length = b) : swp (p ++ (x ++ (y ++ (z ++ q)))) a b n = p ++ (z ++ (y ++ (x ++ q))) := by
  apply List.ext_getElem?
  intro i
  rw [swp_get n (by omega) (by simp; omega)]
  simp only [List.getElem?_append, ha, hx, hz]
  repeat' split
  all_goals first
    | omega
    | rfl
    | (congr 1; omega)
def RT (id ver : Nat) (p q x y : List Mark) (nx : Nat) (h : Hp) (cap : Option Nat) (n : Nat) (t : St) : Prop := ∃ A X Y B : List Mark, n = X.length + Y.length ∧ 0 < X.length ∧ 0 < Y.length ∧ A.length + X.length = x.length ∧ A ++ (Y ++ (X ++ B)) = y ++ x ∧ t.t 10 = .int .i64 X.length ∧ t.t 11 = .int .i64 Y.length ∧ t.t 0 = .sl id ver 0 (p.length + x.length + y.length + q.length) cap ∧ t.t 2 = .int .i64 ((p.length + x.length : Nat) : Int) ∧ t.t 4 = cmpV ∧ nx ≤ t.nx ∧ (∀ j, j < nx → j ≠ id → t.h j = h j) ∧ t.h id = rowB ver (p ++ A ++ (X ++ (Y ++ (B ++ q))))
theorem rotate_ex {h : Hp} {id ver nx : Nat} {p x y q : List Mark} {cap : Option Nat} (hb : h id = rowB ver (p ++ (x ++ (y ++ q)))) (hid : id < nx) (hl : p.length + x.length + y.length + q.length ≤ 5000) (hx : 0 < x.length) (hy : 0 < y.length) :
    SEx Try.prog 149 [.sl id ver 0 (p.length + x.length + y.length + q.length) cap, .int .i64 p.length, .int .i64 ((p.length + x.length : Nat) : Int), .int .i64 ((p.length + x.length + y.length : Nat) : Int), cmpV] h nx (RowQ id ver nx h fun l' => l' = p ++ (y ++ (x ++ q))) := by
  refine SEx.of hm h149 (of_decide_eq_true rfl) ?_
  unfold c149
  have w1 : IntKind.i64.wrap (((p.length + x.length : Nat) : Int) - (p.length : Int)) = (x.length : Int) := by rw [w_i64 (by omega) (by omega)]; omega
  have w2 : IntKind.i64.wrap (((p.length + x.length + y.length : Nat) : Int) - ((p.length + x.length : Nat) : Int)) = (y.length : Int) := by rw [w_i64 (by omega) (by omega)]; omega
  generalize hm0 : p.length + x.length = m at *
  generalize hb0 : m + y.length = bb at *
  generalize hn0 : bb + q.length = nn at *
  simp -dsimp [w1, w2]
  refine loop_dec (RT id ver p q x y nx h cap) (x.length + y.length) ?_ (fun n t hI => ?_)
  · exact ⟨[], x, y, [], rfl, hx, hy, by simp, by simp, by simp -dsimp, by simp -dsimp, by simp -dsimp; omega, by simp -dsimp [hm0], by simp -dsimp, by simp -dsimp, fun j _ _ => by simp -dsimp, by simp -dsimp [hb]⟩
  · obtain ⟨A, X, Y, B, hn, x0, y0, hA, hE, i10, i11, i0, i2, i4, inx, ih, ib⟩ := hI
    have hlen : A.length + Y.length + X.length + B.length = x.length + y.length := by
      have := congrArg List.length hE
      simp at this
      omega
    have hn1 : p.length + x.length + y.length + q.length = nn := by omega
    have hrow : (p ++ A ++ (X ++ (Y ++ (B ++ q)))).length = nn := by simp; omega
    rw [hn1] at i0
    rw [hm0] at i2
    have ws1 : IntKind.i64.wrap ((m : Int) - (X.length : Int)) = (((p ++ A).length : Nat) : Int) := by rw [w_i64 (by omega) (by omega)]; simp; omega
    unfold l149_0
    rcases Nat.lt_trichotomy Y.length X.length with c | c | c
    · have c1 : ¬ X.length = Y.length := by omega
      have c2 : (Y.length : Int) < (X.length : Int) := by omega
      have hX : X.take Y.length ++ X.drop Y.length = X := List.take_append_drop _ _
      have l1 : (X.take Y.length).length = Y.length := by simp; omega
      have l2 : (X.drop Y.length).length = X.length - Y.length := by simp
      generalize X.take Y.length = X1 at *
      generalize X.drop Y.length = X2 at *
      subst hX
      have hrow2 : p ++ A ++ (X1 ++ X2 ++ (Y ++ (B ++ q))) = p ++ A ++ (X1 ++ (X2 ++ (Y ++ (B ++ q)))) := by simp
      rw [hrow2] at ib hrow
      have hs := swap_ex (h := t.h) (nx := t.nx) (cap := cap) ib (by omega) (by omega) (a := (p ++ A).length) (b := m) (n := Y.length) (by simp; simp at hA; omega) (by omega)
      rw [swp_app (p ++ A) X1 X2 Y (B ++ q) rfl l1 rfl (by simp; simp at hA; omega), hrow] at hs
      generalize hXl : (X1 ++ X2).length = xl at *
      have l3 : X1.length + X2.length = xl := by rw [← hXl]; simp
      have ws2 : IntKind.i64.wrap ((xl : Int) - (Y.length : Int)) = ((X2.length : Nat) : Int) := by rw [w_i64 (by omega) (by omega)]; omega
      generalize hpA : (p ++ A).length = pa at *
      have c1' : ¬ (xl : Int) = (Y.length : Int) := by omega
      simp -dsimp [i10, i11, c1, c1', c2, i0, i2, i4, ws1]
      refine shr_ex hs ?_
      rintro v h' nx' ⟨r1, r2, l', rfl, r3⟩
      simp -dsimp [i10, i11, i0, i2, i4, ws2]
      refine ⟨X2.length + Y.length, by omega, A ++ Y, X2, X1, B, by omega, by omega, by omega, by simp; omega, by rw [← hE]; simp, by simp -dsimp, by simp -dsimp [i11, l1], by simp -dsimp [i0, hn1], by simp -dsimp [i2, hm0], by simp -dsimp [i4], by simp -dsimp; omega, fun j hj hne => ?_, ?_⟩
      · simp -dsimp
        rw [r2 j (by omega) hne, ih j hj hne]
      · simp -dsimp
        rw [r3]
        simp
    · have c1 : X.length = Y.length := by omega
      have hs := swap_ex (h := t.h) (nx := t.nx) (cap := cap) ib (by omega) (by omega) (a := (p ++ A).length) (b := m) (n := X.length) (by simp; omega) (by omega)
      have er : p ++ A ++ (X ++ (Y ++ (B ++ q))) = p ++ A ++ (X ++ ([] ++ (Y ++ (B ++ q)))) := by simp
      have esw := swp_app (p ++ A) X [] Y (B ++ q) (a := (p ++ A).length) (b := m) (n := X.length) rfl rfl c1.symm (by simp; omega)
      rw [← er] at esw
      rw [esw, hrow] at hs
      have q1 : ((X.length : Int) = (Y.length : Int)) = True := eq_true (by omega)
      generalize hpA : (p ++ A).length = pa at *
      generalize hXl : X.length = xl at *
      generalize hYl : Y.length = yl at *
      subst c1
      simp -dsimp [i10, i11, i0, i2, i4, ws1]
      refine shr_ex hs ?_
      rintro v h' nx' ⟨r1, r2, l', rfl, r3⟩
      simp -dsimp
      refine ⟨by omega, fun j hj hne => by rw [r2 j (by omega) hne, ih j hj hne], _, ?_, r3⟩
      have e : p ++ (y ++ (x ++ q)) = p ++ ((y ++ x) ++ q) := by simp
      rw [e, ← hE]
      simp
    · have c1 : ¬ X.length = Y.length := by omega
      have c2 : ¬ (Y.length : Int) < (X.length : Int) := by omega
      have hY : Y.take (Y.length - X.length) ++ Y.drop (Y.length - X.length) = Y := List.take_append_drop _ _
      have l1 : (Y.take (Y.length - X.length)).length = Y.length - X.length := by simp
      have l2 : (Y.drop (Y.length - X.length)).length = X.length := by simp; omega
      generalize Y.take (Y.length - X.length) = Y1 at *
      generalize Y.drop (Y.length - X.length) = Y2 at *
      subst hY
      have hrow2 : p ++ A ++ (X ++ (Y1 ++ Y2 ++ (B ++ q))) = p ++ A ++ (X ++ (Y1 ++ (Y2 ++ (B ++ q)))) := by simp
      rw [hrow2] at ib hrow
      generalize hYl : (Y1 ++ Y2).length = yl at *
      have l3 : Y1.length + Y2.length = yl := by rw [← hYl]; simp
      have hs := swap_ex (h := t.h) (nx := t.nx) (cap := cap) ib (by omega) (by omega) (a := (p ++ A).length) (b := m + yl - X.length) (n := X.length) (by simp; omega) (by omega)
      rw [swp_app (p ++ A) X Y1 Y2 (B ++ q) rfl rfl l2 (by simp; omega), hrow] at hs
      have ws3 : IntKind.i64.wrap ((m : Int) + (yl : Int)) = (((m + yl : Nat) : Nat) : Int) := by rw [w_i64 (by omega) (by omega)]; omega
      have ws4 : IntKind.i64.wrap ((m : Int) + (yl : Int) - (X.length : Int)) = ((m + yl - X.length : Nat) : Int) := by rw [w_i64 (by omega) (by omega)]; omega
      have ws5 : IntKind.i64.wrap ((yl : Int) - (X.length : Int)) = ((Y1.length : Nat) : Int) := by rw [w_i64 (by omega) (by omega)]; omega
      generalize hpA : (p ++ A).length = pa at *
      have c1' : ¬ (X.length : Int) = (yl : Int) := by omega
      have ws3' : IntKind.i64.wrap ((m : Int) + (yl : Int)) = (m : Int) + (yl : Int) := by rw [w_i64 (by omega) (by omega)]
      simp -dsimp [i10, i11, c1, c1', c2, i0, i2, i4, ws1, ws3', ws4]
      refine shr_ex hs ?_
      rintro v h' nx' ⟨r1, r2, l', rfl, r3⟩
      simp -dsimp [i10, i11, i0, i2, i4, ws5]
      refine ⟨Y2.length + Y1.length, by omega, A, Y2, Y1, X ++ B, by omega, by omega, by omega, by omega, by rw [← hE]; simp, by simp -dsimp [i10, l2], by simp -dsimp, by simp -dsimp [i0, hn1], by simp -dsimp [i2, hm0], by simp -dsimp [i4], by simp -dsimp; omega, fun j hj hne => ?_, ?_⟩
      · simp -dsimp
        rw [r2 j (by omega) hne, ih j hj hne]
      · simp -dsimp
        rw [r3]
        simp
end Go.Proofs.P3
end
section
set_option linter.unusedVariables false
set_option linter.unusedSimpArgs false
set_option maxRecDepth 10000
set_option maxHeartbeats 8000000
namespace Go.Proofs.P3
open Go.Ex
def lem (u v : Mark) : Prop := u.1 ≤ v.1
abbrev Srt (l : List Mark) : Prop := l.Pairwise lem
theorem set_mid (pre post : List Mark) (w e : Mark) : ((pre ++ (w :: e :: post)).set (pre.length + 1) w).set pre.length e = pre ++ (e :: w :: post) := by
  simp [List.set_append]
theorem srt_put {u v : List Mark} {e : Mark} (h : Srt (u ++ v)) (hv : ∀ z ∈ v, e.1 < z.1) (hu : ∀ z ∈ u, z.1 ≤ e.1) : Srt (u ++ (e :: v)) := by
  rw [Srt, List.pairwise_append] at h ⊢
  refine ⟨h.1, List.pairwise_cons.2 ⟨fun z hz => Int.le_of_lt (hv z hz), h.2.1⟩, fun a ha b hb => ?_⟩
  rcases List.mem_cons.1 hb with rfl | hb
  · exact hu a ha
  · exact h.2.2 a ha b hb
def IJ (id ver : Nat) (p : List Mark) (R s : List Mark) (e : Mark) (b i nx : Nat) (h : Hp) (nn : Nat) (cap : Option Nat) (n : Nat) (t : St) : Prop := ∃ u v : List Mark, n = u.length ∧ u ++ v = s ∧ (∀ z ∈ v, e.1 < z.1) ∧ t.t 9 = .int .i64 ((p.length + u.length : Nat) : Int) ∧ t.t 8 = .int .i64 i ∧ t.t 0 = .sl id ver 0 nn cap ∧ t.t 1 = .int .i64 p.length ∧ t.t 2 = .int .i64 b ∧ t.t 3 = cmpV ∧ nx ≤ t.nx ∧ (∀ j, j < nx → j ≠ id → t.h j = h j) ∧ t.h id = rowB ver (p ++ (u ++ (e :: (v ++ R))))
def IO (id ver : Nat) (p : List Mark) (R s : List Mark) (e : Mark) (b i nx : Nat) (h : Hp) (nn : Nat) (cap : Option Nat) (ee : E) (t : St) : Prop := ee = .exit 2 ∧ ∃ s', s'.Perm (s ++ [e]) ∧ Srt s' ∧ t.t 8 = .int .i64 i ∧ t.t 0 = .sl id ver 0 nn cap ∧ t.t 1 = .int .i64 p.length ∧ t.t 2 = .int .i64 b ∧ t.t 3 = cmpV ∧ nx ≤ t.nx ∧ (∀ j, j < nx → j ≠ id → t.h j = h j) ∧ t.h id = rowB ver (p ++ (s' ++ R))
theorem ins_in {h : Hp} {id ver nx : Nat} {p R s : List Mark} {e : Mark} {b i nn : Nat} {cap : Option Nat} (hid : id < nx) (hn : p.length + s.length + 1 + R.length = nn) (hl : nn ≤ 5000) (hs : Srt s) (ho : ∀ z ∈ s, markOk z) (he : markOk e) {n : Nat} {t : St} (hI : IJ id ver p R s e b i nx h nn cap n t) :
    LP Try.prog l139_0 (IO id ver p R s e b i nx h nn cap) t ⟨⟩ ⟨⟩ := by
  refine loop_dec (IJ id ver p R s e b i nx h nn cap) n hI (fun n t hI => ?_)
  obtain ⟨u, v, hn', hus, hv, i9, i8, i0, i1, i2, i3, inx, ih, ib⟩ := hI
  have hlen : u.length + v.length = s.length := by rw [← hus]; simp
  unfold l139_0
  have fin : (∀ z ∈ u, z.1 ≤ e.1) → ∀ t' : St, t'.t 8 = .int .i64 i → t'.t 0 = .sl id ver 0 nn cap → t'.t 1 = .int .i64 p.length → t'.t 2 = .int .i64 b → t'.t 3 = cmpV → nx ≤ t'.nx → (∀ j, j < nx → j ≠ id → t'.h j = h j) → t'.h id = t.h id → IO id ver p R s e b i nx h nn cap (.exit 2) t' := by
    intro hu t' q8 q0 q1 q2 q3 qn qh qb
    refine ⟨rfl, u ++ (e :: v), ?_, srt_put (by rw [hus]; exact hs) hv hu, q8, q0, q1, q2, q3, qn, qh, ?_⟩
    · rw [← hus, List.append_assoc]
      exact List.Perm.append_left u (List.perm_append_singleton e v).symm
    · rw [qb, ib]; simp
  rcases List.eq_nil_or_concat u with hu0 | ⟨u', w, hu⟩
  · subst hu0
    have c1 : ¬ ((p.length : Int) < ((p.length + ([] : List Mark).length : Nat) : Int)) := by simp
    simp -dsimp [i9, i1]
    exact fin (by simp) _ (by simp -dsimp [i8]) (by simp -dsimp [i0]) (by simp -dsimp [i1]) (by simp -dsimp [i2]) (by simp -dsimp [i3]) (by simp -dsimp; exact inx) (by simpa using ih) (by simp -dsimp)
  · rw [List.concat_eq_append] at hu
    subst hu
    have hul : (u' ++ [w]).length = u'.length + 1 := by simp
    have hrow : p ++ (u' ++ [w] ++ (e :: (v ++ R))) = (p ++ u') ++ (w :: e :: (v ++ R)) := by simp
    rw [hrow] at ib
    have hpl : (p ++ u').length = p.length + u'.length := by simp
    have gj : ((p ++ u') ++ (w :: e :: (v ++ R)))[p.length + u'.length + 1]? = some e := by rw [← hpl, List.getElem?_append_right (by omega)]; simp
    have gj1 : ((p ++ u') ++ (w :: e :: (v ++ R)))[p.length + u'.length]? = some w := by rw [← hpl, List.getElem?_append_right (by omega)]; simp
    have hrl : ((p ++ u') ++ (w :: e :: (v ++ R))).length = nn := by simp; simp at hlen; omega
    have hset := set_mid (p ++ u') (v ++ R) w e
    rw [hpl] at hset
    have how : markOk w := ho w (by rw [← hus]; simp)
    rw [hul, ← Nat.add_assoc] at i9
    have hsw : ∀ z ∈ u', z.1 ≤ w.1 := by
      have := hs
      rw [← hus, Srt, List.pairwise_append, List.pairwise_append] at this
      exact fun z hz => this.1.2.2 z hz w (by simp)
    have hju : p.length + u'.length + 1 ≤ nn := by omega
    generalize hk : p.length + u'.length = k at *
    generalize hrw : (p ++ u') ++ (w :: e :: (v ++ R)) = row at *
    have w1 : IntKind.i64.wrap ((k : Int) + 1 - 1) = (k : Int) := by rw [w_i64 (by omega) (by omega)]; omega
    have w0 : IntKind.i64.wrap (k : Int) = (k : Int) := w_i64 (by omega) (by omega)
    have c1 : (p.length : Int) < ((k + 1 : Nat) : Int) := by omega
    have c2 : p.length < k + 1 := by omega
    have c3 : (p.length : Int) < (k : Int) + 1 := by omega
    have ia1 : ∀ (h : Hp) (K : V → List Nat → Prop), h id = rowB ver row → iaddrK h (.sl id ver 0 nn cap) (.int .i64 ((k : Int) + 1)) 3 K ⟨⟩ = K (.pt id ver ((k + 1) * 3)) [id] := fun h K hb => r_ia hb hrl gj
    simp -dsimp [-st_pt, -V.cells, -V.storable, i9, i1, c1, c2, c3, i0, i3, ia1 _ _ ib, r_ld ib gj, w1, w0, r_ia ib hrl gj1, r_ld ib gj1]
    refine calv_ex (Q := Quiet (.int .i64 (e.1 - w.1)) t.h t.nx) cmp_body (cmp_ex e w he how) ?_
    rintro v' h' nx' ⟨rfl, q1, q2⟩
    have ib' : h' id = rowB ver row := by rw [q2 id (by omega), ib]
    simp -dsimp
    by_cases c4 : e.1 - w.1 < 0
    · have hb2 : ∀ hh : Hp, (upd hh id (rowB ver (row.set (k + 1) w))) id = rowB ver (row.set (k + 1) w) := fun hh => by simp
      obtain ⟨z, gz⟩ : ∃ z, (row.set (k + 1) w)[k]? = some z := ⟨_, List.getElem?_eq_getElem (by simp; omega)⟩
      have hrl2 : (row.set (k + 1) w).length = nn := by simp; exact hrl
      have ia2 : ∀ (h : Hp) (K : V → List Nat → Prop), h id = rowB ver row → iaddrK h (.sl id ver 0 nn cap) (.int .i64 ((k : Int) + 1)) 3 K ⟨⟩ = K (.pt id ver ((k + 1) * 3)) [id] := ia1
      simp -dsimp [-st_pt, -V.cells, -V.storable, c4, i9, i0, ia1 _ _ ib', r_ld ib' gj, w1, w0, r_ia ib' hrl gj1, r_ld ib' gj1, r_st ib' (show k + 1 < row.length by omega), r_ia (hb2 _) hrl2 gz, r_st (hb2 _) (show k < (row.set (k + 1) w).length by omega), hset]
      refine ⟨u'.length, by omega, u', w :: v, rfl, by rw [← hus]; simp, fun z hz => ?_, by simp -dsimp [hk], by simp -dsimp [i8], by simp -dsimp [i0], by simp -dsimp [i1], by simp -dsimp [i2], by simp -dsimp [i3], by simp -dsimp; omega, fun j hj hne => ?_, ?_⟩
      · rcases List.mem_cons.1 hz with rfl | hz
        · omega
        · exact hv z hz
      · simp -dsimp [hne]
        rw [q2 j (by omega), ih j hj hne]
      · simp -dsimp
    · simp -dsimp [c4]
      exact fin (fun z hz => by
        rcases List.mem_append.1 hz with hz | hz
        · have := hsw z hz; omega
        · have : z = w := by simpa using hz
          subst this; omega) _ (by simp -dsimp [i8]) (by simp -dsimp [i0]) (by simp -dsimp [i1]) (by simp -dsimp [i2]) (by simp -dsimp [i3]) (by simp -dsimp; omega) (fun j hj hne => by simp -dsimp; rw [q2 j (by omega), ih j hj hne]) (by simp -dsimp; rw [q2 id (by omega)])
def II (id ver : Nat) (p x q : List Mark) (nx : Nat) (h : Hp) (nn : Nat) (cap : Option Nat) (n : Nat) (t : St) : Prop := ∃ s r : List Mark, n = r.length ∧ (s ++ r).Perm x ∧ Srt s ∧ t.t 8 = .int .i64 ((p.length + s.length : Nat) : Int) ∧ t.t 0 = .sl id ver 0 nn cap ∧ t.t 1 = .int .i64 p.length ∧ t.t 2 = .int .i64 ((p.length + x.length : Nat) : Int) ∧ t.t 3 = cmpV ∧ nx ≤ t.nx ∧ (∀ j, j < nx → j ≠ id → t.h j = h j) ∧ t.h id = rowB ver (p ++ (s ++ (r ++ q)))
theorem insertion_ex {h : Hp} {id ver nx : Nat} {p x q : List Mark} {nn : Nat} {cap : Option Nat} (hb : h id = rowB ver (p ++ (x ++ q))) (hid : id < nx) (hn : p.length + x.length + q.length = nn) (hl : nn ≤ 5000) (ho : ∀ z ∈ x, markOk z) :
    SEx Try.prog 139 [.sl id ver 0 nn cap, .int .i64 p.length, .int .i64 ((p.length + x.length : Nat) : Int), cmpV] h nx (RowQ id ver nx h fun l' => ∃ z, z.Perm x ∧ Srt z ∧ l' = p ++ (z ++ q)) := by
  refine SEx.of hm h139 (of_decide_eq_true rfl) ?_
  unfold c139
  have w1 : IntKind.i64.wrap ((p.length : Int) + 1) = (p.length : Int) + 1 := w_i64 (by omega) (by omega)
  cases x with
  | nil =>
    have c : ¬ ((p.length : Int) + 1 < (p.length : Int)) := by omega
    simp -dsimp [w1]
    refine loop_dec (fun n t => t.t 8 = .int .i64 ((p.length : Int) + 1) ∧ t.t 2 = .int .i64 p.length ∧ t.h = h ∧ t.nx = nx) 0 (by simp -dsimp) (fun n t hI => ?_)
    obtain ⟨i8, i2, ih, inx⟩ := hI
    unfold l139_1
    simp -dsimp [i8, i2, c]
    exact ⟨by omega, fun j _ _ => by rw [ih], p ++ q, by simp [Srt], by rw [ih]; simpa using hb⟩
  | cons e0 x' =>
    generalize hbb : ((p.length + (e0 :: x').length : Nat) : Int) = bb at *
    simp -dsimp [w1]
    refine loop_dec (II id ver p (e0 :: x') q nx h nn cap) x'.length ?_ (fun n t hI => ?_)
    · exact ⟨[e0], x', rfl, by simp, by simp [Srt], by simp -dsimp, by simp -dsimp, by simp -dsimp, by simp -dsimp [← hbb], by simp -dsimp, by simp -dsimp, fun j _ _ => by simp -dsimp, by simp -dsimp [hb]⟩
    · obtain ⟨s, r, hn', hp, hs, i8, i0, i1, i2, i3, inx, ih, ib⟩ := hI
      have hpl : s.length + r.length = (e0 :: x').length := by have := hp.length_eq; simpa using this
      unfold l139_1
      cases r with
      | nil =>
        have c : ¬ ((p.length + s.length : Nat) : Int) < bb := by rw [← hbb]; simp at hpl ⊢; omega
        rw [hbb] at i2
        generalize hc : ((p.length + s.length : Nat) : Int) = ii at *
        simp -dsimp [i8, i2, c]
        exact ⟨inx, ih, _, ⟨s, by simpa using hp, hs, rfl⟩, by simpa using ib⟩
      | cons e r =>
        have c : ((p.length + s.length : Nat) : Int) < bb := by rw [← hbb]; simp at hpl ⊢; omega
        have w2 : IntKind.i64.wrap (((p.length + s.length : Nat) : Int) + 1) = ((p.length + s.length + 1 : Nat) : Int) := by rw [w_i64 (by simp at hpl hn; omega) (by simp at hpl hn; omega)]; simp
        have hfin : ∀ s' : List Mark, s'.Perm (s ++ [e]) → (s' ++ r).Perm (e0 :: x') := fun s' h => by
          refine List.Perm.trans (List.Perm.append_right r h) ?_
          rw [List.append_assoc]
          exact hp
        have hos : ∀ z ∈ s ++ (e :: r), markOk z := fun z hz => ho z (hp.mem_iff.1 hz)
        have hls : ∀ s' : List Mark, s'.Perm (s ++ [e]) → p.length + s'.length = p.length + s.length + 1 := fun s' h => by have := h.length_eq; simp at this; omega
        rw [hbb] at i2
        generalize hc : ((p.length + s.length : Nat) : Int) = ii at *
        obtain ⟨bn, rfl⟩ : ∃ bn : Nat, bb = (bn : Int) := ⟨_, hbb.symm⟩
        obtain ⟨ii, rfl⟩ : ∃ k : Nat, ii = (k : Int) := ⟨_, hc.symm⟩
        have c' : ii < bn := by omega
        simp -dsimp [i8, i2, c, c']
        refine LP_cut (IO id ver p (r ++ q) s e bn ii nx h nn cap) (ins_in hid (by simp at hpl hn ⊢; omega) hl hs (fun z hz => hos z (by simp [hz])) (hos e (by simp)) (n := s.length) ⟨s, [], rfl, by simp, by simp, by simp -dsimp [← hc], by simp -dsimp [i8], by simp -dsimp [i0], by simp -dsimp [i1], by simp -dsimp [i2], by simp -dsimp [i3], by simp -dsimp; omega, fun j hj hne => by simp -dsimp; exact ih j hj hne, by simp -dsimp; rw [ib]; simp⟩) ?_
        rintro e' t' ⟨rfl, s', hp', hs', q8, q0, q1, q2, q3, qn, qh, qb⟩
        simp -dsimp [q8, w2]
        exact ⟨r.length, by rw [hn']; simp, s', r, rfl, hfin s' hp', hs', by simp -dsimp; have := hls s' hp'; omega, by simp -dsimp [q0], by simp -dsimp [q1], by simp -dsimp [q2]; simp at hbb; omega, by simp -dsimp [q3], by simp -dsimp; omega, fun j hj hne => by simp -dsimp; exact qh j hj hne, by simp -dsimp; rw [qb]⟩
end Go.Proofs.P3
end
section
set_option linter.unusedVariables false
set_option linter.unusedSimpArgs false
set_option maxRecDepth 10000
set_option maxHeartbeats 4000000
namespace Go.Proofs.P3
open Go.Ex
theorem srt_put2 {u v : List Mark} {e : Mark} (h : Srt (u ++ v)) (hv : ∀ z ∈ v, e.1 ≤ z.1) (hu : ∀ z ∈ u, z.1 ≤ e.1) : Srt (u ++ (e :: v)) := by
  rw [Srt, List.pairwise_append] at h ⊢
  refine ⟨h.1, List.pairwise_cons.2 ⟨hv, h.2.1⟩, fun a ha b hb => ?_⟩
  rcases List.mem_cons.1 hb with rfl | hb
  · exact hu a ha
  · exact h.2.2 a ha b hb
theorem srt_le {x : List Mark} (h : Srt x) {i j : Nat} (hij : i ≤ j) (hj : j < x.length) : (mAt x i).1 ≤ (mAt x j).1 := by
  by_cases e : i = j
  · subst e; exact Int.le_refl _
  · have gi := get_mAt (l := x) (k := i) (by omega)
    have gj := get_mAt (l := x) (k := j) hj
    have := (List.pairwise_iff_getElem.1 h) i j (by omega) hj (by omega)
    rw [(List.getElem?_eq_some_iff.1 gi).2, (List.getElem?_eq_some_iff.1 gj).2] at this
    exact this
theorem mem_take_at {x : List Mark} {c : Nat} {u : Mark} (hu : u ∈ x.take c) : ∃ k, k < c ∧ k < x.length ∧ u = mAt x k := by
  obtain ⟨k, hk⟩ := List.getElem?_of_mem hu
  have h1 := (List.getElem?_eq_some_iff.1 hk).1
  rw [List.length_take] at h1
  have hk2 : k < x.length := by omega
  rw [List.getElem?_take, if_pos (by omega), get_mAt hk2] at hk
  exact ⟨k, by omega, hk2, by injection hk with hk; exact hk.symm⟩
theorem mem_drop_at {x : List Mark} {c : Nat} {u : Mark} (hu : u ∈ x.drop c) : ∃ k, c ≤ k ∧ k < x.length ∧ u = mAt x k := by
  obtain ⟨k, hk⟩ := List.getElem?_of_mem hu
  have h1 := (List.getElem?_eq_some_iff.1 hk).1
  rw [List.length_drop] at h1
  have hk2 : c + k < x.length := by omega
  rw [List.getElem?_drop, get_mAt hk2] at hk
  exact ⟨c + k, by omega, hk2, by injection hk with hk; exact hk.symm⟩
/-- One element put into a sorted row. -/
theorem srt_ins {y : List Mark} (h : Srt y) {e : Mark} {c : Nat} (h1 : ∀ k, k < c → k < y.length → (mAt y k).1 ≤ e.1) (h2 : ∀ k, c ≤ k → k < y.length → e.1 ≤ (mAt y k).1) : Srt (y.take c ++ (e :: y.drop c)) := by
  refine srt_put2 (by rw [List.take_append_drop]; exact h) (fun z hz => ?_) (fun z hz => ?_)
  · obtain ⟨k, a, b, rfl⟩ := mem_drop_at hz
    exact h2 k a b
  · obtain ⟨k, a, b, rfl⟩ := mem_take_at hz
    exact h1 k a b
theorem srt_join {x1 x2 y1 y2 z1 z2 : List Mark} (hx : Srt (x1 ++ x2)) (hy : Srt (y1 ++ y2)) (h1 : ∀ u ∈ x1, ∀ v ∈ y2, lem u v) (h2 : ∀ u ∈ y1, ∀ v ∈ x2, lem u v) (p1 : z1.Perm (x1 ++ y1)) (p2 : z2.Perm (x2 ++ y2)) (s1 : Srt z1) (s2 : Srt z2) :
    Srt (z1 ++ z2) ∧ (z1 ++ z2).Perm ((x1 ++ x2) ++ (y1 ++ y2)) := by
  rw [Srt, List.pairwise_append] at hx hy
  refine ⟨List.pairwise_append.2 ⟨s1, s2, fun a ha b hb => ?_⟩, ?_⟩
  · have ha := p1.mem_iff.1 ha
    have hb := p2.mem_iff.1 hb
    rcases List.mem_append.1 ha with ha | ha <;> rcases List.mem_append.1 hb with hb | hb
    · exact hx.2.2 a ha b hb
    · exact h1 a ha b hb
    · exact h2 a ha b hb
    · exact hy.2.2 a ha b hb
  · refine List.Perm.trans (List.Perm.append p1 p2) ?_
    rw [List.append_assoc, List.append_assoc]
    refine List.Perm.append_left x1 ?_
    rw [← List.append_assoc, ← List.append_assoc]
    exact List.Perm.append_right y2 List.perm_append_comm
/-- The two halves, as the symmetric search cuts them. -/
theorem srt_cut {x y : List Mark} (hx : Srt x) (hy : Srt y) {c d : Nat} (hc : c ≤ x.length) (hd : d ≤ y.length)
    (k1 : 0 < c → d < y.length → (mAt x (c - 1)).1 ≤ (mAt y d).1) (k2 : 0 < d → c < x.length → (mAt y (d - 1)).1 ≤ (mAt x c).1) :
    (∀ u ∈ x.take c, ∀ v ∈ y.drop d, lem u v) ∧ (∀ u ∈ y.take d, ∀ v ∈ x.drop c, lem u v) := by
  constructor
  · intro u hu v hv
    obtain ⟨i, a1, a2, rfl⟩ := mem_take_at hu
    obtain ⟨j, b1, b2, rfl⟩ := mem_drop_at hv
    have := srt_le hx (i := i) (j := c - 1) (by omega) (by omega)
    have := srt_le hy (i := d) (j := j) b1 b2
    have := k1 (by omega) (by omega)
    unfold lem
    omega
  · intro u hu v hv
    obtain ⟨i, a1, a2, rfl⟩ := mem_take_at hu
    obtain ⟨j, b1, b2, rfl⟩ := mem_drop_at hv
    have := srt_le hy (i := i) (j := d - 1) (by omega) (by omega)
    have := srt_le hx (i := c) (j := j) b1 b2
    have := k2 (by omega) (by omega)
    unfold lem
    omega
end Go.Proofs.P3
end
section
set_option linter.unusedVariables false
set_option linter.unusedSimpArgs false
set_option maxRecDepth 10000
set_option maxHeartbeats 8000000
namespace Go.Proofs.P3
open Go.Ex
structure MB (id ver nn : Nat) (cap : Option Nat) (a m b nx : Nat) (h : Hp) (row : List Mark) (t : St) : Prop where
  t0 : t.t 0 = .sl id ver 0 nn cap
  t1 : t.t 1 = .int .i64 a
  t2 : t.t 2 = .int .i64 m
  t3 : t.t 3 = .int .i64 b
  t4 : t.t 4 = cmpV
  en : nx ≤ t.nx
  eh : ∀ j, j < nx → j ≠ id → t.h j = h j
  eb : t.h id = rowB ver row
/-- A search: what is found. -/
def Found (lo hi : Nat) (P : Nat → Prop) (c : Nat) : Prop := lo ≤ c ∧ c ≤ hi ∧ (∀ k, lo ≤ k → k < c → P k) ∧ ∀ k, c ≤ k → k < hi → ¬ P k
def SI0 (si sj : Nat) (lo hi : Nat) (P : Nat → Prop) (B : St → Prop) (n : Nat) (t : St) : Prop := ∃ i j : Nat, n = j - i ∧ lo ≤ i ∧ i ≤ j ∧ j ≤ hi ∧ (∀ k, lo ≤ k → k < i → P k) ∧ (∀ k, j ≤ k → k < hi → ¬ P k) ∧ t.t si = .int .i64 i ∧ t.t sj = .int .i64 j ∧ B t
def SO0 (ex si : Nat) (lo hi : Nat) (P : Nat → Prop) (B : St → Prop) (e : E) (t : St) : Prop := e = .exit ex ∧ ∃ c, Found lo hi P c ∧ t.t si = .int .i64 c ∧ B t
theorem search0 {id ver nn : Nat} {cap : Option Nat} {a m b nx : Nat} {h : Hp} {row : List Mark} (hid : id < nx) (hn : row.length = nn) (hl : nn ≤ 5000) (ha : a < m) (hm' : m ≤ b) (hb : b ≤ nn) (ho : ∀ k, a ≤ k → k < b → markOk (mAt row k))
    (hmono : ∀ k k', m ≤ k → k ≤ k' → k' < b → (mAt row k').1 < (mAt row a).1 → (mAt row k).1 < (mAt row a).1) {n : Nat} {t : St}
    (hI : SI0 10 11 m b (fun k => (mAt row k).1 < (mAt row a).1) (MB id ver nn cap a m b nx h row) n t) :
    LP Try.prog l140_0 (SO0 0 10 m b (fun k => (mAt row k).1 < (mAt row a).1) (MB id ver nn cap a m b nx h row)) t ⟨⟩ ⟨⟩ := by
  refine loop_dec (SI0 10 11 m b (fun k => (mAt row k).1 < (mAt row a).1) (MB id ver nn cap a m b nx h row)) n hI (fun n t hI => ?_)
  obtain ⟨i, j, hn', hi, hij, hj, hP, hQ, ii, jj, t0, t1, t2, t3, t4, inx, ih, ib⟩ := hI
  unfold l140_0
  by_cases c : i < j
  · have c' : (i : Int) < (j : Int) := by omega
    have hw1 : IntKind.i64.wrap ((i : Int) + (j : Int)) = (i : Int) + (j : Int) := IntWalk.i64_in _ (by omega)
    have hw2 : IntKind.u64.wrap ((i : Int) + (j : Int)) = (i : Int) + (j : Int) := IntWalk.u64_in _ (by omega)
    have hfd : ((i : Int) + (j : Int)).fdiv (2 ^ min 1 IntKind.u64.bits) = (((i + j) / 2 : Nat) : Int) := by
      have : (2 : Int) ^ min 1 IntKind.u64.bits = 2 := by decide
      rw [this, Int.fdiv_eq_ediv_of_nonneg _ (by omega)]
      omega
    have hw3 : IntKind.i64.wrap (((i + j) / 2 : Nat) : Int) = (((i + j) / 2 : Nat) : Int) := IntWalk.i64_in _ (by omega)
    have hm1 : i ≤ (i + j) / 2 := by omega
    have hm2 : (i + j) / 2 < j := by omega
    generalize (i + j) / 2 = k at hfd hw3 hm1 hm2
    have hg := get_mAt (l := row) (k := k) (by omega)
    have hga := get_mAt (l := row) (k := a) (by omega)
    have ok := ho k (by omega) (by omega)
    have oa := ho a (by omega) (by omega)
    have hw4 : IntKind.i64.wrap ((k : Int) + 1) = ((k + 1 : Nat) : Int) := by rw [IntWalk.i64_in _ (by omega)]; simp
    have hmk := fun k' h1 h2 => hmono k' k h1 h2 (by omega)
    have hmk2 := fun k' h2 h3 => hmono k k' (by omega) h2 h3
    simp -dsimp [ii, jj, c, c', hw1, hw2, hfd, hw3, t4, t0, t1, r_ia ib hn hg, r_ld ib hg, r_ia ib hn hga, r_ld ib hga]
    refine calv_ex (Q := Quiet (.int .i64 ((mAt row k).1 - (mAt row a).1)) t.h t.nx) cmp_body (cmp_ex _ _ ok oa) ?_
    rintro v' h' nx' ⟨rfl, q1, q2⟩
    have ib' : h' id = rowB ver row := by rw [q2 id (by omega), ib]
    have ih' : ∀ j, j < nx → j ≠ id → h' j = h j := fun j hj hne => by rw [q2 j (by omega), ih j hj hne]
    simp -dsimp
    by_cases d : (mAt row k).1 - (mAt row a).1 < 0
    · simp -dsimp [d, hw4]
      exact ⟨j - (k + 1), by omega, k + 1, j, rfl, by omega, by omega, hj, fun k' h1 h2 => hmk k' h1 (by omega) (by omega), hQ, by simp -dsimp, by simp -dsimp [jj], ⟨by simp -dsimp [t0], by simp -dsimp [t1], by simp -dsimp [t2], by simp -dsimp [t3], by simp -dsimp [t4], by simp -dsimp; omega, by simpa using ih', by simpa using ib'⟩⟩
    · simp -dsimp [d]
      exact ⟨k - i, by omega, i, k, rfl, hi, hm1, by omega, hP, fun k' h1 h2 h3 => by have := hmk2 k' h1 h2 h3; omega, by simp -dsimp [ii], by simp -dsimp, ⟨by simp -dsimp [t0], by simp -dsimp [t1], by simp -dsimp [t2], by simp -dsimp [t3], by simp -dsimp [t4], by simp -dsimp; omega, by simpa using ih', by simpa using ib'⟩⟩
  · obtain rfl : i = j := by omega
    simp -dsimp [ii, jj]
    exact ⟨rfl, i, ⟨hi, hj, hP, hQ⟩, by simp -dsimp [ii], ⟨by simp -dsimp [t0], by simp -dsimp [t1], by simp -dsimp [t2], by simp -dsimp [t3], by simp -dsimp [t4], inx, ih, ib⟩⟩
theorem search1 {id ver nn : Nat} {cap : Option Nat} {a m b nx : Nat} {h : Hp} {row : List Mark} (hid : id < nx) (hn : row.length = nn) (hl : nn ≤ 5000) (ha : a ≤ m) (hm' : m < b) (hb : b ≤ nn) (ho : ∀ k, a ≤ k → k < b → markOk (mAt row k))
    (hmono : ∀ k k', a ≤ k → k ≤ k' → k' < m → (mAt row k').1 ≤ (mAt row m).1 → (mAt row k).1 ≤ (mAt row m).1) {n : Nat} {t : St}
    (hI : SI0 14 15 a m (fun k => (mAt row k).1 ≤ (mAt row m).1) (MB id ver nn cap a m b nx h row) n t) :
    LP Try.prog l140_2 (SO0 4 14 a m (fun k => (mAt row k).1 ≤ (mAt row m).1) (MB id ver nn cap a m b nx h row)) t ⟨⟩ ⟨⟩ := by
  refine loop_dec (SI0 14 15 a m (fun k => (mAt row k).1 ≤ (mAt row m).1) (MB id ver nn cap a m b nx h row)) n hI (fun n t hI => ?_)
  obtain ⟨i, j, hn', hi, hij, hj, hP, hQ, ii, jj, t0, t1, t2, t3, t4, inx, ih, ib⟩ := hI
  unfold l140_2
  by_cases c : i < j
  · have c' : (i : Int) < (j : Int) := by omega
    have hw1 : IntKind.i64.wrap ((i : Int) + (j : Int)) = (i : Int) + (j : Int) := IntWalk.i64_in _ (by omega)
    have hw2 : IntKind.u64.wrap ((i : Int) + (j : Int)) = (i : Int) + (j : Int) := IntWalk.u64_in _ (by omega)
    have hfd : ((i : Int) + (j : Int)).fdiv (2 ^ min 1 IntKind.u64.bits) = (((i + j) / 2 : Nat) : Int) := by
      have : (2 : Int) ^ min 1 IntKind.u64.bits = 2 := by decide
      rw [this, Int.fdiv_eq_ediv_of_nonneg _ (by omega)]
      omega
    have hw3 : IntKind.i64.wrap (((i + j) / 2 : Nat) : Int) = (((i + j) / 2 : Nat) : Int) := IntWalk.i64_in _ (by omega)
    have hm1 : i ≤ (i + j) / 2 := by omega
    have hm2 : (i + j) / 2 < j := by omega
    generalize (i + j) / 2 = k at hfd hw3 hm1 hm2
    have hg := get_mAt (l := row) (k := k) (by omega)
    have hga := get_mAt (l := row) (k := m) (by omega)
    have ok := ho k (by omega) (by omega)
    have oa := ho m (by omega) (by omega)
    have hw4 : IntKind.i64.wrap ((k : Int) + 1) = ((k + 1 : Nat) : Int) := by rw [IntWalk.i64_in _ (by omega)]; simp
    have hmk := fun k' h1 h2 => hmono k' k h1 h2 (by omega)
    have hmk2 := fun k' h2 h3 => hmono k k' (by omega) h2 h3
    simp -dsimp [ii, jj, c, c', hw1, hw2, hfd, hw3, t4, t0, t2, r_ia ib hn hg, r_ld ib hg, r_ia ib hn hga, r_ld ib hga]
    refine calv_ex (Q := Quiet (.int .i64 ((mAt row m).1 - (mAt row k).1)) t.h t.nx) cmp_body (cmp_ex _ _ oa ok) ?_
    rintro v' h' nx' ⟨rfl, q1, q2⟩
    have ib' : h' id = rowB ver row := by rw [q2 id (by omega), ib]
    have ih' : ∀ j, j < nx → j ≠ id → h' j = h j := fun j hj hne => by rw [q2 j (by omega), ih j hj hne]
    simp -dsimp
    by_cases d : (mAt row m).1 - (mAt row k).1 < 0
    · simp -dsimp [d]
      exact ⟨k - i, by omega, i, k, rfl, hi, hm1, by omega, hP, fun k' h1 h2 h3 => by have := hmk2 k' h1 h2 h3; omega, by simp -dsimp [ii], by simp -dsimp, ⟨by simp -dsimp [t0], by simp -dsimp [t1], by simp -dsimp [t2], by simp -dsimp [t3], by simp -dsimp [t4], by simp -dsimp; omega, by simpa using ih', by simpa using ib'⟩⟩
    · simp -dsimp [d, hw4]
      exact ⟨j - (k + 1), by omega, k + 1, j, rfl, by omega, by omega, hj, fun k' h1 h2 => hmk k' h1 (by omega) (by omega), hQ, by simp -dsimp, by simp -dsimp [jj], ⟨by simp -dsimp [t0], by simp -dsimp [t1], by simp -dsimp [t2], by simp -dsimp [t3], by simp -dsimp [t4], by simp -dsimp; omega, by simpa using ih', by simpa using ib'⟩⟩
  · obtain rfl : i = j := by omega
    simp -dsimp [ii, jj]
    exact ⟨rfl, i, ⟨hi, hj, hP, hQ⟩, by simp -dsimp [ii], ⟨by simp -dsimp [t0], by simp -dsimp [t1], by simp -dsimp [t2], by simp -dsimp [t3], by simp -dsimp [t4], inx, ih, ib⟩⟩
def MB2 (id ver nn : Nat) (cap : Option Nat) (a m b nx : Nat) (h : Hp) (row : List Mark) (mid nN pp : Nat) (t : St) : Prop := MB id ver nn cap a m b nx h row t ∧ t.t 18 = .int .i64 mid ∧ t.t 19 = .int .i64 nN ∧ t.t 22 = .int .i64 pp
theorem search2 {id ver nn : Nat} {cap : Option Nat} {a m b nx : Nat} {h : Hp} {row : List Mark} {lo hi mid nN pp : Nat} (hid : id < nx) (hn : row.length = nn) (hl : nn ≤ 5000) (ha : a ≤ lo) (hm' : hi ≤ b) (hb : b ≤ nn) (hpp : pp ≤ 10000) (hr : ∀ c, lo ≤ c → c < hi → c ≤ pp ∧ a ≤ pp - c ∧ pp - c < b) (ho : ∀ k, a ≤ k → k < b → markOk (mAt row k))
    (hmono : ∀ k k', lo ≤ k → k ≤ k' → k' < hi → (mAt row k').1 ≤ (mAt row (pp - k')).1 → (mAt row k).1 ≤ (mAt row (pp - k)).1) {n : Nat} {t : St}
    (hI : SI0 20 21 lo hi (fun k => (mAt row k).1 ≤ (mAt row (pp - k)).1) (MB2 id ver nn cap a m b nx h row mid nN pp) n t) :
    LP Try.prog l140_4 (SO0 8 20 lo hi (fun k => (mAt row k).1 ≤ (mAt row (pp - k)).1) (MB2 id ver nn cap a m b nx h row mid nN pp)) t ⟨⟩ ⟨⟩ := by
  refine loop_dec (SI0 20 21 lo hi (fun k => (mAt row k).1 ≤ (mAt row (pp - k)).1) (MB2 id ver nn cap a m b nx h row mid nN pp)) n hI (fun n t hI => ?_)
  obtain ⟨i, j, hn', hi0, hij, hj, hP, hQ, ii, jj, ⟨t0, t1, t2, t3, t4, inx, ih, ib⟩, t18, t19, t22⟩ := hI
  unfold l140_4
  by_cases c : i < j
  · have c' : (i : Int) < (j : Int) := by omega
    have hw1 : IntKind.i64.wrap ((i : Int) + (j : Int)) = (i : Int) + (j : Int) := IntWalk.i64_in _ (by omega)
    have hw2 : IntKind.u64.wrap ((i : Int) + (j : Int)) = (i : Int) + (j : Int) := IntWalk.u64_in _ (by omega)
    have hfd : ((i : Int) + (j : Int)).fdiv (2 ^ min 1 IntKind.u64.bits) = (((i + j) / 2 : Nat) : Int) := by
      have : (2 : Int) ^ min 1 IntKind.u64.bits = 2 := by decide
      rw [this, Int.fdiv_eq_ediv_of_nonneg _ (by omega)]
      omega
    have hw3 : IntKind.i64.wrap (((i + j) / 2 : Nat) : Int) = (((i + j) / 2 : Nat) : Int) := IntWalk.i64_in _ (by omega)
    have hm1 : i ≤ (i + j) / 2 := by omega
    have hm2 : (i + j) / 2 < j := by omega
    generalize (i + j) / 2 = k at hfd hw3 hm1 hm2
    have hg := get_mAt (l := row) (k := k) (by omega)
    obtain ⟨r1, r2, r3⟩ := hr k (by omega) (by omega)
    have hga := get_mAt (l := row) (k := pp - k) (by omega)
    have wp : IntKind.i64.wrap ((pp : Int) - (k : Int)) = ((pp - k : Nat) : Int) := by rw [w_i64 (by omega) (by omega)]; omega
    have ok := ho k (by omega) (by omega)
    have oa := ho (pp - k) (by omega) (by omega)
    have hw4 : IntKind.i64.wrap ((k : Int) + 1) = ((k + 1 : Nat) : Int) := by rw [IntWalk.i64_in _ (by omega)]; simp
    have hmk := fun k' h1 h2 => hmono k' k h1 h2 (by omega)
    have hmk2 := fun k' h2 h3 => hmono k k' (by omega) h2 h3
    simp -dsimp [ii, jj, c, c', hw1, hw2, hfd, hw3, t4, t0, t22, wp, r_ia ib hn hg, r_ld ib hg, r_ia ib hn hga, r_ld ib hga]
    refine calv_ex (Q := Quiet (.int .i64 ((mAt row (pp - k)).1 - (mAt row k).1)) t.h t.nx) cmp_body (cmp_ex _ _ oa ok) ?_
    rintro v' h' nx' ⟨rfl, q1, q2⟩
    have ib' : h' id = rowB ver row := by rw [q2 id (by omega), ib]
    have ih' : ∀ j, j < nx → j ≠ id → h' j = h j := fun j hj hne => by rw [q2 j (by omega), ih j hj hne]
    simp -dsimp
    by_cases d : (mAt row (pp - k)).1 - (mAt row k).1 < 0
    · simp -dsimp [d]
      exact ⟨k - i, by omega, i, k, rfl, hi0, hm1, by omega, hP, fun k' h1 h2 h3 => by have := hmk2 k' h1 h2 h3; omega, by simp -dsimp [ii], by simp -dsimp, ⟨by simp -dsimp [t0], by simp -dsimp [t1], by simp -dsimp [t2], by simp -dsimp [t3], by simp -dsimp [t4], by simp -dsimp; omega, by simpa using ih', by simpa using ib'⟩, by simp -dsimp [t18], by simp -dsimp [t19], by simp -dsimp [t22]⟩
    · simp -dsimp [d, hw4]
      exact ⟨j - (k + 1), by omega, k + 1, j, rfl, by omega, by omega, hj, fun k' h1 h2 => hmk k' h1 (by omega) (by omega), hQ, by simp -dsimp, by simp -dsimp [jj], ⟨by simp -dsimp [t0], by simp -dsimp [t1], by simp -dsimp [t2], by simp -dsimp [t3], by simp -dsimp [t4], by simp -dsimp; omega, by simpa using ih', by simpa using ib'⟩, by simp -dsimp [t18], by simp -dsimp [t19], by simp -dsimp [t22]⟩
  · obtain rfl : i = j := by omega
    simp -dsimp [ii, jj]
    exact ⟨rfl, i, ⟨hi0, hj, hP, hQ⟩, by simp -dsimp [ii], ⟨by simp -dsimp [t0], by simp -dsimp [t1], by simp -dsimp [t2], by simp -dsimp [t3], by simp -dsimp [t4], inx, ih, ib⟩, by simp -dsimp [t18], by simp -dsimp [t19], by simp -dsimp [t22]⟩
end Go.Proofs.P3
end
section
set_option linter.unusedVariables false
set_option linter.unusedSimpArgs false
set_option maxRecDepth 10000
set_option maxHeartbeats 8000000
namespace Go.Proofs.P3
open Go.Ex
theorem set_mid2 (pre post : List Mark) (w e : Mark) : ((pre ++ (e :: w :: post)).set pre.length w).set (pre.length + 1) e = pre ++ (w :: e :: post) := by
  simp [List.set_append]
def UI (id ver nn : Nat) (cap : Option Nat) (nx : Nat) (h : Hp) (p Y R : List Mark) (e : Mark) (n : Nat) (t : St) : Prop := ∃ U W : List Mark, n = W.length ∧ U ++ W = Y ∧ t.t 13 = .int .i64 ((p.length + U.length : Nat) : Int) ∧ t.t 10 = .int .i64 ((p.length + Y.length + 1 : Nat) : Int) ∧ t.t 0 = .sl id ver 0 nn cap ∧ nx ≤ t.nx ∧ (∀ j, j < nx → j ≠ id → t.h j = h j) ∧ t.h id = rowB ver (p ++ (U ++ (e :: (W ++ R))))
def UO (id ver nx : Nat) (h : Hp) (ex : Nat) (row : List Mark) (ee : E) (t : St) : Prop := ee = .exit ex ∧ nx ≤ t.nx ∧ (∀ j, j < nx → j ≠ id → t.h j = h j) ∧ t.h id = rowB ver row
theorem shift_up {id ver nn : Nat} {cap : Option Nat} {nx : Nat} {h : Hp} {p Y R : List Mark} {e : Mark} (hid : id < nx) (hn : p.length + Y.length + 1 + R.length = nn) (hl : nn ≤ 5000) {n : Nat} {t : St} (hI : UI id ver nn cap nx h p Y R e n t) :
    LP Try.prog l140_1 (UO id ver nx h 2 (p ++ (Y ++ (e :: R)))) t ⟨⟩ ⟨⟩ := by
  refine loop_dec (UI id ver nn cap nx h p Y R e) n hI (fun n t hI => ?_)
  obtain ⟨U, W, hn', hUV, i13, i10, i0, inx, ih, ib⟩ := hI
  have hlen : U.length + W.length = Y.length := by rw [← hUV]; simp
  have w0 : IntKind.i64.wrap (((p.length + Y.length + 1 : Nat) : Int) - 1) = ((p.length + Y.length : Nat) : Int) := by rw [w_i64 (by omega) (by omega)]; omega
  generalize hA : p.length + Y.length + 1 = pa at *
  generalize hB : p.length + Y.length = pb at *
  unfold l140_1
  cases W with
  | nil =>
    have hUp : p.length + U.length = pb := by simp at hlen; omega
    rw [hUp] at i13
    simp -dsimp [i13, i10, w0]
    refine ⟨rfl, inx, ih, ?_⟩
    simp -dsimp
    rw [ib, ← hUV]; simp
  | cons w W =>
    have hrow : p ++ (U ++ (e :: (w :: W ++ R))) = (p ++ U) ++ (e :: w :: (W ++ R)) := by simp
    rw [hrow] at ib
    have hpl : (p ++ U).length = p.length + U.length := by simp
    have gj : ((p ++ U) ++ (e :: w :: (W ++ R)))[p.length + U.length]? = some e := by rw [← hpl, List.getElem?_append_right (by omega)]; simp
    have gj1 : ((p ++ U) ++ (e :: w :: (W ++ R)))[p.length + U.length + 1]? = some w := by rw [← hpl, List.getElem?_append_right (by omega)]; simp
    have hrl : ((p ++ U) ++ (e :: w :: (W ++ R))).length = nn := by simp; simp at hlen; omega
    have hset := set_mid2 (p ++ U) (W ++ R) w e
    rw [hpl] at hset
    have hk1 : p.length + U.length < pb := by simp at hlen; omega
    generalize hk : p.length + U.length = k at *
    generalize hrw : (p ++ U) ++ (e :: w :: (W ++ R)) = row at *
    have w1 : IntKind.i64.wrap ((k : Int) + 1) = ((k + 1 : Nat) : Int) := by rw [w_i64 (by omega) (by omega)]; simp
    have ia1 : ∀ (h : Hp) (K : V → List Nat → Prop), h id = rowB ver row → iaddrK h (.sl id ver 0 nn cap) (.int .i64 ((k : Int) + 1)) 3 K ⟨⟩ = K (.pt id ver ((k + 1) * 3)) [id] := fun h K hb => r_ia hb hrl gj1
    have hb2 : ∀ hh : Hp, (upd hh id (rowB ver (row.set k w))) id = rowB ver (row.set k w) := fun hh => by simp
    obtain ⟨z, gz⟩ : ∃ z, (row.set k w)[k + 1]? = some z := ⟨_, List.getElem?_eq_getElem (by simp; omega)⟩
    have hrl2 : (row.set k w).length = nn := by simp; exact hrl
    have ia2 : ∀ (h : Hp) (K : V → List Nat → Prop), h id = rowB ver (row.set k w) → iaddrK h (.sl id ver 0 nn cap) (.int .i64 ((k : Int) + 1)) 3 K ⟨⟩ = K (.pt id ver ((k + 1) * 3)) [id] := fun h K hb => r_ia hb hrl2 gz
    simp -dsimp [-st_pt, -V.cells, -V.storable, i13, i10, w0, hk1, i0, w1, ia1 _ _ ib, r_ld ib gj1, r_ia ib hrl gj, r_ld ib gj, r_st ib (show k < row.length by omega), ia2 _ _ (hb2 _), r_st (hb2 _) (show k + 1 < (row.set k w).length by omega), hset]
    refine ⟨W.length, by rw [hn']; simp, U ++ [w], W, rfl, by rw [← hUV]; simp, by simp -dsimp; omega, by simp -dsimp [i10]; omega, by simp -dsimp [i0], by simp -dsimp; exact inx, fun j hj hne => ?_, ?_⟩
    · simp -dsimp [hne]
      exact ih j hj hne
    · simp -dsimp
def DI2 (id ver nn : Nat) (cap : Option Nat) (nx : Nat) (h : Hp) (p X R : List Mark) (e : Mark) (n : Nat) (t : St) : Prop := ∃ U W : List Mark, n = U.length ∧ U ++ W = X ∧ t.t 17 = .int .i64 ((p.length + U.length : Nat) : Int) ∧ t.t 14 = .int .i64 (p.length : Int) ∧ t.t 0 = .sl id ver 0 nn cap ∧ nx ≤ t.nx ∧ (∀ j, j < nx → j ≠ id → t.h j = h j) ∧ t.h id = rowB ver (p ++ (U ++ (e :: (W ++ R))))
theorem shift_down {id ver nn : Nat} {cap : Option Nat} {nx : Nat} {h : Hp} {p X R : List Mark} {e : Mark} (hid : id < nx) (hn : p.length + X.length + 1 + R.length = nn) (hl : nn ≤ 5000) {n : Nat} {t : St} (hI : DI2 id ver nn cap nx h p X R e n t) :
    LP Try.prog l140_3 (UO id ver nx h 6 (p ++ (e :: (X ++ R)))) t ⟨⟩ ⟨⟩ := by
  refine loop_dec (DI2 id ver nn cap nx h p X R e) n hI (fun n t hI => ?_)
  obtain ⟨U, W, hn', hUW, i17, i14, i0, inx, ih, ib⟩ := hI
  have hlen : U.length + W.length = X.length := by rw [← hUW]; simp
  unfold l140_3
  rcases List.eq_nil_or_concat U with hu0 | ⟨U', w, hu⟩
  · subst hu0
    simp -dsimp [i17, i14]
    refine ⟨rfl, inx, ih, ?_⟩
    simp -dsimp
    rw [ib, ← hUW]; simp
  · rw [List.concat_eq_append] at hu
    subst hu
    have hrow : p ++ (U' ++ [w] ++ (e :: (W ++ R))) = (p ++ U') ++ (w :: e :: (W ++ R)) := by simp
    rw [hrow] at ib
    have hpl : (p ++ U').length = p.length + U'.length := by simp
    have gj : ((p ++ U') ++ (w :: e :: (W ++ R)))[p.length + U'.length + 1]? = some e := by rw [← hpl, List.getElem?_append_right (by omega)]; simp
    have gj1 : ((p ++ U') ++ (w :: e :: (W ++ R)))[p.length + U'.length]? = some w := by rw [← hpl, List.getElem?_append_right (by omega)]; simp
    have hrl : ((p ++ U') ++ (w :: e :: (W ++ R))).length = nn := by simp; simp at hlen; omega
    have hset := set_mid (p ++ U') (W ++ R) w e
    rw [hpl] at hset
    have hul : (U' ++ [w]).length = U'.length + 1 := by simp
    rw [hul, ← Nat.add_assoc] at i17
    have hju : p.length + U'.length + 1 ≤ nn := by rw [← hrl]; simp; omega
    have hpk : p.length ≤ p.length + U'.length := by omega
    generalize hk : p.length + U'.length = k at *
    generalize hrw : (p ++ U') ++ (w :: e :: (W ++ R)) = row at *
    have w1 : IntKind.i64.wrap ((k : Int) + 1 - 1) = (k : Int) := by rw [w_i64 (by omega) (by omega)]; omega
    have w0 : IntKind.i64.wrap (k : Int) = (k : Int) := w_i64 (by omega) (by omega)
    have c3 : (p.length : Int) < (k : Int) + 1 := by omega
    have c2 : p.length < k + 1 := by omega
    have ia1 : ∀ (h : Hp) (K : V → List Nat → Prop), h id = rowB ver row → iaddrK h (.sl id ver 0 nn cap) (.int .i64 ((k : Int) + 1)) 3 K ⟨⟩ = K (.pt id ver ((k + 1) * 3)) [id] := fun h K hb => r_ia hb hrl gj
    have hb2 : ∀ hh : Hp, (upd hh id (rowB ver (row.set (k + 1) w))) id = rowB ver (row.set (k + 1) w) := fun hh => by simp
    obtain ⟨z, gz⟩ : ∃ z, (row.set (k + 1) w)[k]? = some z := ⟨_, List.getElem?_eq_getElem (by simp; omega)⟩
    have hrl2 : (row.set (k + 1) w).length = nn := by simp; exact hrl
    simp -dsimp [-st_pt, -V.cells, -V.storable, i17, i14, c2, c3, i0, ia1 _ _ ib, r_ld ib gj, w1, w0, r_ia ib hrl gj1, r_ld ib gj1, r_st ib (show k + 1 < row.length by omega), r_ia (hb2 _) hrl2 gz, r_st (hb2 _) (show k < (row.set (k + 1) w).length by omega), hset]
    refine ⟨U'.length, by omega, U', w :: W, rfl, by rw [← hUW]; simp, by simp -dsimp [hk], by simp -dsimp [i14], by simp -dsimp [i0], by simp -dsimp; exact inx, fun j hj hne => ?_, ?_⟩
    · simp -dsimp [hne]
      exact ih j hj hne
    · simp -dsimp
end Go.Proofs.P3
end
section
set_option linter.unusedVariables false
set_option linter.unusedSimpArgs false
set_option maxRecDepth 10000
set_option maxHeartbeats 8000000
namespace Go.Proofs.P3
open Go.Ex
theorem row_x {p x r : List Mark} {a k : Nat} (ha : p.length = a) (hk : k < x.length) : mAt (p ++ (x ++ r)) (a + k) = mAt x k := by
  unfold mAt
  rw [List.getElem?_append_right (by omega), List.getElem?_append_left (by omega), show a + k - p.length = k by omega]
theorem row_y {p x y r : List Mark} {m k : Nat} (hm : p.length + x.length = m) (hk : k < y.length) : mAt (p ++ (x ++ (y ++ r))) (m + k) = mAt y k := by
  unfold mAt
  rw [List.getElem?_append_right (by omega), List.getElem?_append_right (by omega), List.getElem?_append_left (by omega), show m + k - p.length - x.length = k by omega]
structure SymH (id ver nn : Nat) (nx : Nat) (h : Hp) (p x y q : List Mark) : Prop where
  x0 : 0 < x.length
  y0 : 0 < y.length
  sx : Srt x
  sy : Srt y
  ok : ∀ z ∈ x ++ y, markOk z
  hb : h id = rowB ver (p ++ (x ++ (y ++ q)))
  hid : id < nx
  hn : p.length + x.length + y.length + q.length = nn
  hl : nn ≤ 5000
abbrev SymC (id ver nn : Nat) (cap : Option Nat) (nx : Nat) (h : Hp) (p x y q : List Mark) : Prop :=
  SEx Try.prog 140 [.sl id ver 0 nn cap, .int .i64 p.length, .int .i64 ((p.length + x.length : Nat) : Int), .int .i64 ((p.length + x.length + y.length : Nat) : Int), cmpV] h nx (RowQ id ver nx h fun l' => ∃ z, z.Perm (x ++ y) ∧ Srt z ∧ l' = p ++ (z ++ q))
theorem sym_x1 {id ver nn : Nat} {cap : Option Nat} {nx : Nat} {h : Hp} {p y q : List Mark} {e : Mark} (H : SymH id ver nn nx h p [e] y q) : SymC id ver nn cap nx h p [e] y q := by
  obtain ⟨x0, y0, sx, sy, ok, hb, hid, hn, hl⟩ := H
  have hrow : (p ++ ([e] ++ (y ++ q))).length = nn := by simp; simp at hn; omega
  have rx : mAt (p ++ ([e] ++ (y ++ q))) p.length = e := by
    have := row_x (p := p) (x := [e]) (r := y ++ q) (k := 0) rfl (by simp)
    rw [Nat.add_zero] at this
    rw [this]; rfl
  have ry : ∀ k, k < y.length → mAt (p ++ ([e] ++ (y ++ q))) (p.length + [e].length + k) = mAt y k := fun k hk => row_y rfl hk
  refine SEx.of hm h140 (of_decide_eq_true rfl) ?_
  unfold c140
  simp only [List.length_singleton] at *
  have hok : ∀ k, p.length ≤ k → k < p.length + 1 + y.length → markOk (mAt (p ++ ([e] ++ (y ++ q))) k) := fun k h1 h2 => by
    by_cases c : k = p.length
    · subst c; rw [rx]; exact ok e (by simp)
    · have := ry (k - (p.length + 1)) (by omega)
      rw [show p.length + 1 + (k - (p.length + 1)) = k by omega] at this
      rw [this]
      exact ok _ (List.mem_append_right _ (mAt_mem (by omega)))
  have hmono : ∀ k k', p.length + 1 ≤ k → k ≤ k' → k' < p.length + 1 + y.length → (mAt (p ++ ([e] ++ (y ++ q))) k').1 < (mAt (p ++ ([e] ++ (y ++ q))) p.length).1 → (mAt (p ++ ([e] ++ (y ++ q))) k).1 < (mAt (p ++ ([e] ++ (y ++ q))) p.length).1 := fun k k' h1 h2 h3 h4 => by
    have e1 := ry (k - (p.length + 1)) (by omega)
    have e2 := ry (k' - (p.length + 1)) (by omega)
    rw [show p.length + 1 + (k - (p.length + 1)) = k by omega] at e1
    rw [show p.length + 1 + (k' - (p.length + 1)) = k' by omega] at e2
    have := srt_le sy (i := k - (p.length + 1)) (j := k' - (p.length + 1)) (by omega) (by omega)
    rw [e1]; rw [e2] at h4
    omega
  have w1 : IntKind.i64.wrap (((p.length + 1 : Nat) : Int) - (p.length : Int)) = 1 := by rw [w_i64 (by omega) (by omega)]; omega
  generalize hm0 : p.length + 1 = m at *
  generalize hb0 : m + y.length = bb at *
  generalize ha0 : p.length = a at *
  simp -dsimp [w1]
  refine LP_cut _ (search0 (id := id) (ver := ver) (nn := nn) (a := a) (m := m) (b := bb) (nx := nx) (h := h) (row := p ++ ([e] ++ (y ++ q))) (cap := cap) hid hrow hl (by omega) (by omega) (by omega) hok hmono (n := bb - m) ⟨m, bb, rfl, by omega, by omega, by omega, fun k h1 h2 => by omega, fun k h1 h2 => by omega, by simp -dsimp, by simp -dsimp, ⟨by simp -dsimp, by simp -dsimp, by simp -dsimp, by simp -dsimp, by simp -dsimp, by simp -dsimp, fun j _ _ => by simp -dsimp, by simp -dsimp [hb]⟩⟩) ?_
  rintro e' t' ⟨rfl, c, ⟨f1, f2, f3, f4⟩, i10, t0, t1, t2, t3, t4, inx, ih, ib⟩
  have hy : y.take (c - m) ++ y.drop (c - m) = y := List.take_append_drop _ _
  have hl1 : (y.take (c - m)).length = c - m := by rw [List.length_take]; omega
  have hins := srt_ins sy (e := e) (c := c - m) (fun k h1 h2 => by
    have := f3 (m + k) (by omega) (by omega)
    simp only [ry k h2, rx] at this; omega) (fun k h1 h2 => by
    have := f4 (m + k) (by omega) (by omega)
    simp only [ry k h2, rx] at this; omega)
  have hperm : (y.take (c - m) ++ (e :: y.drop (c - m))).Perm ([e] ++ y) := by
    refine List.Perm.trans List.perm_middle ?_
    rw [hy]; exact .refl _
  generalize hY : y.take (c - m) = Y1 at *
  generalize hZ : y.drop (c - m) = Y2 at *
  simp -dsimp [t1]
  refine LP_cut _ (shift_up (id := id) (ver := ver) (nn := nn) (cap := cap) (nx := nx) (h := h) (p := p) (Y := Y1) (R := Y2 ++ q) (e := e) hid (by have := congrArg List.length hy; simp at this ⊢; omega) hl (n := Y1.length) ⟨[], Y1, rfl, rfl, by simp -dsimp [ha0], by simp -dsimp [i10]; omega, by simp -dsimp [t0], by simp -dsimp; exact inx, fun j hj hne => by simp -dsimp; exact ih j hj hne, by simp -dsimp; rw [ib, ← hy]; simp⟩) ?_
  rintro e' t'' ⟨rfl, jnx, jh, jb⟩
  simp -dsimp
  exact ⟨jnx, jh, _, ⟨_, hperm, hins, rfl⟩, by rw [jb]; simp⟩
theorem sym_y1 {id ver nn : Nat} {cap : Option Nat} {nx : Nat} {h : Hp} {p x q : List Mark} {e : Mark} (H : SymH id ver nn nx h p x [e] q) (hx2 : x.length ≠ 1) : SymC id ver nn cap nx h p x [e] q := by
  obtain ⟨x0, y0, sx, sy, ok, hb, hid, hn, hl⟩ := H
  have hrow : (p ++ (x ++ ([e] ++ q))).length = nn := by simp; simp at hn; omega
  have rx : ∀ k, k < x.length → mAt (p ++ (x ++ ([e] ++ q))) (p.length + k) = mAt x k := fun k hk => row_x rfl hk
  have ry : mAt (p ++ (x ++ ([e] ++ q))) (p.length + x.length) = e := by
    have := row_y (p := p) (x := x) (y := [e]) (r := q) (k := 0) rfl (by simp)
    rw [Nat.add_zero] at this
    rw [this]; rfl
  refine SEx.of hm h140 (of_decide_eq_true rfl) ?_
  unfold c140
  simp only [List.length_singleton] at *
  have hok : ∀ k, p.length ≤ k → k < p.length + x.length + 1 → markOk (mAt (p ++ (x ++ ([e] ++ q))) k) := fun k h1 h2 => by
    by_cases c : k = p.length + x.length
    · subst c; rw [ry]; exact ok e (by simp)
    · have := rx (k - p.length) (by omega)
      rw [show p.length + (k - p.length) = k by omega] at this
      rw [this]
      exact ok _ (List.mem_append_left _ (mAt_mem (by omega)))
  have hmono : ∀ k k', p.length ≤ k → k ≤ k' → k' < p.length + x.length → (mAt (p ++ (x ++ ([e] ++ q))) k').1 ≤ (mAt (p ++ (x ++ ([e] ++ q))) (p.length + x.length)).1 → (mAt (p ++ (x ++ ([e] ++ q))) k).1 ≤ (mAt (p ++ (x ++ ([e] ++ q))) (p.length + x.length)).1 := fun k k' h1 h2 h3 h4 => by
    have e1 := rx (k - p.length) (by omega)
    have e2 := rx (k' - p.length) (by omega)
    rw [show p.length + (k - p.length) = k by omega] at e1
    rw [show p.length + (k' - p.length) = k' by omega] at e2
    have := srt_le sx (i := k - p.length) (j := k' - p.length) (by omega) (by omega)
    rw [e1]; rw [e2] at h4
    omega
  have w1 : IntKind.i64.wrap (((p.length + x.length : Nat) : Int) - (p.length : Int)) = (x.length : Int) := by rw [w_i64 (by omega) (by omega)]; omega
  have w2 : IntKind.i64.wrap (((p.length + x.length + 1 : Nat) : Int) - ((p.length + x.length : Nat) : Int)) = 1 := by rw [w_i64 (by omega) (by omega)]; omega
  have hx3 : ¬ (x.length : Int) = 1 := by omega
  generalize hm0 : p.length + x.length = m at *
  generalize hb0 : m + 1 = bb at *
  generalize ha0 : p.length = a at *
  simp -dsimp [w1, w2, hx2, hx3]
  refine LP_cut _ (search1 (id := id) (ver := ver) (nn := nn) (a := a) (m := m) (b := bb) (nx := nx) (h := h) (row := p ++ (x ++ ([e] ++ q))) (cap := cap) hid hrow hl (by omega) (by omega) (by omega) hok hmono (n := m - a) ⟨a, m, rfl, by omega, by omega, by omega, fun k h1 h2 => by omega, fun k h1 h2 => by omega, by simp -dsimp, by simp -dsimp, ⟨by simp -dsimp, by simp -dsimp, by simp -dsimp, by simp -dsimp, by simp -dsimp, by simp -dsimp, fun j _ _ => by simp -dsimp, by simp -dsimp [hb]⟩⟩) ?_
  rintro e' t' ⟨rfl, c, ⟨f1, f2, f3, f4⟩, i14, t0, t1, t2, t3, t4, inx, ih, ib⟩
  have hx : x.take (c - a) ++ x.drop (c - a) = x := List.take_append_drop _ _
  have hl1 : (x.take (c - a)).length = c - a := by rw [List.length_take]; omega
  have hins := srt_ins sx (e := e) (c := c - a) (fun k h1 h2 => by
    have := f3 (a + k) (by omega) (by omega)
    simp only [rx k h2, ry] at this; omega) (fun k h1 h2 => by
    have := f4 (a + k) (by omega) (by omega)
    simp only [rx k h2, ry] at this; omega)
  have hperm : (x.take (c - a) ++ (e :: x.drop (c - a))).Perm (x ++ [e]) := by
    refine List.Perm.trans List.perm_middle ?_
    rw [hx]; exact (List.perm_append_singleton e x).symm
  have hxl := congrArg List.length hx
  rw [List.length_append] at hxl
  generalize hY : x.take (c - a) = X1 at *
  generalize hZ : x.drop (c - a) = X2 at *
  simp -dsimp [t2]
  refine LP_cut _ (shift_down (id := id) (ver := ver) (nn := nn) (cap := cap) (nx := nx) (h := h) (p := p ++ X1) (X := X2) (R := q) (e := e) hid (by simp; omega) hl (n := X2.length) ⟨X2, [], rfl, by simp, by simp -dsimp; omega, by simp -dsimp [i14]; omega, by simp -dsimp [t0], by simp -dsimp; exact inx, fun j hj hne => by simp -dsimp; exact ih j hj hne, by simp -dsimp; rw [ib, ← hx]; simp⟩) ?_
  rintro e' t'' ⟨rfl, jnx, jh, jb⟩
  simp -dsimp
  exact ⟨jnx, jh, _, ⟨_, hperm, hins, rfl⟩, by rw [jb]; simp⟩
end Go.Proofs.P3
end
section
set_option linter.unusedVariables false
set_option linter.unusedSimpArgs false
set_option maxRecDepth 10000
set_option maxHeartbeats 8000000
namespace Go.Proofs.P3
open Go.Ex
/-- What the symmetric search finds: where both are cut. -/
structure Cut (x y : List Mark) (a m b mid c d : Nat) : Prop where
  c0 : a ≤ c
  c1 : c ≤ m
  d1 : m + d ≤ b
  cd : c + d = mid
  k1 : ∀ u ∈ x.take (c - a), ∀ v ∈ y.drop d, lem u v
  k2 : ∀ u ∈ y.take d, ∀ v ∈ x.drop (c - a), lem u v
theorem cut_of {x y row : List Mark} {a m b mid lo hi c : Nat} (hx : Srt x) (hy : Srt y) (ha : a + x.length = m) (hb : m + y.length = b) (hmid : mid = (a + b) / 2)
    (rx : ∀ k, k < x.length → mAt row (a + k) = mAt x k) (ry : ∀ k, k < y.length → mAt row (m + k) = mAt y k)
    (hlo : mid < m ∧ lo = mid + m - b ∧ hi = mid ∨ m ≤ mid ∧ lo = a ∧ hi = m) (h : Found lo hi (fun k => (mAt row k).1 ≤ (mAt row (mid + m - 1 - k)).1) c) : Cut x y a m b mid c (mid - c) := by
  obtain ⟨f1, f2, f3, f4⟩ := h
  have hc := srt_cut hx hy (c := c - a) (d := mid - c) (by omega) (by omega) (fun h1 h2 => ?_) (fun h1 h2 => ?_)
  · exact ⟨by omega, by omega, by omega, by omega, hc.1, hc.2⟩
  · have := f3 (c - 1) (by omega) (by omega)
    have e1 := rx (c - a - 1) (by omega)
    have e2 := ry (mid - c) h2
    rw [show a + (c - a - 1) = c - 1 by omega] at e1
    rw [show m + (mid - c) = mid + m - 1 - (c - 1) by omega] at e2
    simp only [e1, e2] at this
    exact this
  · have := f4 c (by omega) (by omega)
    have e1 := rx (c - a) h2
    have e2 := ry (mid - c - 1) (by omega)
    rw [show a + (c - a) = c by omega] at e1
    rw [show m + (mid - c - 1) = mid + m - 1 - c by omega] at e2
    simp only [e1, e2] at this
    omega
end Go.Proofs.P3
end
