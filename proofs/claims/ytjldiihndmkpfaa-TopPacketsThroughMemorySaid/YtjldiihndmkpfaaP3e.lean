/- Votes of three banks; both sides. -/
import Derived.Test.YtjldiihndmkpfaaP3d
set_option linter.unusedVariables false
set_option linter.unusedSimpArgs false
set_option maxRecDepth 10000
set_option maxHeartbeats 4000000
namespace Go.Proofs.P3
open Go.Ex
def voteI (x y z : Int) : Int := (((x.toNat &&& y.toNat) ||| (y.toNat &&& z.toNat) ||| (z.toNat &&& x.toNat) : Nat) : Int)
def votL (a b c : List Int) : Nat → List Int
  | 0 => a
  | k + 1 => (votL a b c k).set k (voteI (lAt a k) (lAt b k) (lAt c k))
def plc (a b c : List Int) : Nat → List Int
  | 0 => []
  | k + 1 => if lAt a k ≠ lAt b k ∨ lAt b k ≠ lAt c k then plc a b c k ++ [(k : Int)] else plc a b c k
def votedS (a b c : Bank) : Bank × List Int × Int :=
  if firstE [bankE a, bankE b, bankE c] ≠ 0 then (([], []), [], firstE [bankE a, bankE b, bankE c])
  else if b.1.length ≠ a.1.length ∨ c.1.length ≠ a.1.length then (([], []), [], 3)
  else ((votL a.1 b.1 c.1 a.1.length, a.2), plc a.1 b.1 c.1 a.1.length, 0)
theorem votL_len (a b c : List Int) : ∀ k, (votL a b c k).length = a.length
  | 0 => rfl
  | k + 1 => by simp [votL, votL_len a b c k]
theorem plc_len (a b c : List Int) : ∀ k, (plc a b c k).length ≤ k
  | 0 => by simp [plc]
  | k + 1 => by
    have := plc_len a b c k
    unfold plc
    split <;> simp <;> omega
theorem toRO3 {h : Hp} {id : Nat} {x y z : Int} : toRO (upd h id (some ⟨0, 1, [.int .i64 x, .int .i64 y, .int .i64 z], none⟩)) 8 (.sl id 0 0 3 (some 3)) = some (rI [x, y, z]) := by
  simp [toRO, cellRO, upd, fl]
theorem vote_and {x y : Int} (hx : inC x) (hy : inC y) : binA .and (.int .i64 x) (.int .i64 y) = some (.int .i64 ((x.toNat &&& y.toNat : Nat) : Int)) := by
  have h1 := hx.1; have h2 := hx.2; have h3 := hy.1; have h4 := hy.2
  have := A_and (a := x.toNat) (b := y.toNat) (by omega) (by omega)
  rwa [Int.toNat_of_nonneg h1, Int.toNat_of_nonneg h3] at this
theorem and_lt {x y : Int} (hx : inC x) : (x.toNat &&& y.toNat) < 2 ^ 22 := by
  have h1 := hx.1; have h2 := hx.2
  exact Nat.lt_of_le_of_lt Nat.and_le_left (by omega)
structure VI (a b c : Bank) (k : Nat) (t : St) : Prop where
  t6 : t.t 6 = .pt 3 0 0
  h1 : t.h 1 = some ⟨0, 0, [rI b.1, rI b.2], none⟩
  h2 : t.h 2 = some ⟨0, 0, [rI c.1, rI c.2], none⟩
  h3 : t.h 3 = some ⟨0, 0, [.ns, .ns], none⟩
  acc : Acc ic t.h t.nx (t.t 11) (plc a.1 b.1 c.1 k)
  nx : 8 ≤ t.nx
  own : ∀ j, ownOf (t.t 11) = some j → 8 ≤ j
theorem lAt_eq {l : List Int} {k : Nat} {x : Int} (h : l[k]? = some x) : lAt l k = x := by simp [lAt, h]
theorem votL_get {a b c : List Int} {k i : Nat} (h : k ≤ i) : (votL a b c k)[i]? = a[i]? := by
  induction k with
  | zero => rfl
  | succ k ih =>
    unfold votL
    rw [List.getElem?_set_ne (by omega), ih (by omega)]
theorem Voted_ok (a b c : Bank) : OkF Try.prog 38 [bkV a, bkV b, bkV c] (.tup [bkV (votedS a b c).1, rI (votedS a b c).2.1, .int .i64 (votedS a b c).2.2], []) := by
  refine OkF.G0 hm h38 (of_decide_eq_true rfl) ?_
  unfold c38
  have hf := First_ok [bankE a, bankE b, bankE c] (by simp)
  simp -dsimp
  refine call_pure (CheckBank_ok a) (by simp) rfl ?_
  simp -dsimp 
  refine call_pure (CheckBank_ok b) (by simp) rfl ?_
  simp -dsimp 
  refine call_pure (CheckBank_ok c) (by simp) rfl ?_
  simp -dsimp [fillA, toRO3]
  refine call_int hf ?_
  simp -dsimp
  refine condK_of ?_ ?_ <;> intro q <;> simp -dsimp [fillS]
  · have q' : firstE [bankE a, bankE b, bankE c] ≠ 0 := by simpa using q
    have e : votedS a b c = (([], []), [], firstE [bankE a, bankE b, bankE c]) := by unfold votedS; rw [if_pos q']
    simp [e]
  have q' : firstE [bankE a, bankE b, bankE c] = 0 := by simpa using q
  have hz : bankE a = 0 ∧ bankE b = 0 ∧ bankE c = 0 := by
    simp only [firstE] at q'
    split at q' <;> rename_i h1
    · split at q' <;> rename_i h2
      · split at q' <;> rename_i h3
        · exact ⟨h1, h2, h3⟩
        · exact absurd q' h3
      · exact absurd q' h2
    · exact absurd q' h1
  have ga := bank_good hz.1
  have gb := bank_good hz.2.1
  have gc := bank_good hz.2.2
  have ma := ga.most
  by_cases q1 : a.1.length = b.1.length
  · by_cases q2 : a.1.length = c.1.length
    · have q1' : ((a.1.length : Int) = (b.1.length : Int)) := by omega
      have q2' : ((a.1.length : Int) = (c.1.length : Int)) := by omega
      have e : votedS a b c = ((votL a.1 b.1 c.1 a.1.length, a.2), plc a.1 b.1 c.1 a.1.length, 0) := by unfold votedS; rw [if_neg (by simpa using q'), if_neg (by omega)]
      have q3' : ((b.1.length : Int) = (c.1.length : Int)) := by omega
      simp -dsimp [q1', q2', q3']
      refine call_own (copied_ok a ga) ?_ ?_
      · exact okRes_of (by simp)
      simp -dsimp [cpR, addB]
      refine for_lt a.1.length (fun k t => VI a b c k t ∧ t.t 4 = .pt 1 0 0 ∧ t.t 5 = .pt 2 0 0 ∧ t.t 10 = .pt 7 0 0 ∧ t.t 48 = rI a.1 ∧ t.h 5 = some ⟨0, 1, fl ic (votL a.1 b.1 c.1 k), none⟩ ∧ t.h 6 = some ⟨0, 1, fl ic a.2, none⟩ ∧ t.h 7 = some ⟨0, 0, [.sl 5 0 0 a.1.length none, .sl 6 0 0 a.2.length none], none⟩) rfl (by omega) ?_ (by simp -dsimp) (by simp -dsimp [q1', q2']) (fun k t hk hI hi hn => ?_) (fun t hI hi hn => ?_)
      · refine ⟨⟨by simp -dsimp, by simp -dsimp, by simp -dsimp, by simp -dsimp, by simp -dsimp [Acc.nil, plc], by simp -dsimp, fun j hj => by simp [ownOf] at hj⟩, ?_⟩
        simp -dsimp [votL]
      · obtain ⟨hV, i4, i5, i10, i48, h5, h6, h7⟩ := hI
        have hga : a.1[k]? = some a.1[k] := List.getElem?_eq_getElem hk
        have hgb : b.1[k]? = some (b.1[k]'(by omega)) := List.getElem?_eq_getElem (by omega)
        have hgc : c.1[k]? = some (c.1[k]'(by omega)) := List.getElem?_eq_getElem (by omega)
        generalize a.1[k] = x at hga
        generalize b.1[k]'(by omega) = y at hgb
        generalize c.1[k]'(by omega) = z at hgc
        have hx := ga.c x (List.mem_of_getElem? hga)
        have hy := gb.c y (List.mem_of_getElem? hgb)
        have hz := gc.c z (List.mem_of_getElem? hgc)
        have e1 := vote_and hx hy
        have e2 := vote_and hy hz
        have e3 := vote_and hz hx
        have l1 := and_lt (y := y) hx
        have l2 := and_lt (y := z) hy
        have l3 := and_lt (y := x) hz
        have hv : votL a.1 b.1 c.1 (k + 1) = (votL a.1 b.1 c.1 k).set k (((x.toNat &&& y.toNat) ||| (y.toNat &&& z.toNat) ||| (z.toNat &&& x.toNat) : Nat) : Int) := by
          rw [show votL a.1 b.1 c.1 (k + 1) = (votL a.1 b.1 c.1 k).set k (voteI (lAt a.1 k) (lAt b.1 k) (lAt c.1 k)) from rfl, lAt_eq hga, lAt_eq hgb, lAt_eq hgc]; rfl
        have hp : plc a.1 b.1 c.1 (k + 1) = if x ≠ y ∨ y ≠ z then plc a.1 b.1 c.1 k ++ [(k : Int)] else plc a.1 b.1 c.1 k := by
          rw [show plc a.1 b.1 c.1 (k + 1) = if lAt a.1 k ≠ lAt b.1 k ∨ lAt b.1 k ≠ lAt c.1 k then plc a.1 b.1 c.1 k ++ [(k : Int)] else plc a.1 b.1 c.1 k from rfl, lAt_eq hga, lAt_eq hgb, lAt_eq hgc]
        generalize x.toNat &&& y.toNat = xy at *
        generalize y.toNat &&& z.toNat = yz at *
        generalize z.toNat &&& x.toNat = zx at *
        have e4 := A_or (a := xy) (b := yz) (by omega) (by omega)
        have e5 := A_or (a := xy ||| yz) (b := zx) (Nat.or_lt_two_pow (by omega) (by omega)) (by omega)
        generalize xy ||| yz = u at *
        generalize u ||| zx = v at *
        have hlen : (fl ic (votL a.1 b.1 c.1 k)).length = a.1.length := by rw [flat_len, votL_len]; simp
        have ea : ∀ K, iaddrK t.h (.sl 5 0 0 a.1.length none) (.int .i64 k) 1 K ⟨⟩ = K (.pt 5 0 k) [5] := fun K => by
          rw [iaddr_sl h5 rfl hk, Nat.zero_add, Nat.mul_one]
        have hset : (fl ic (votL a.1 b.1 c.1 k)).set k (.int .i64 v) = fl ic (votL a.1 b.1 c.1 (k + 1)) := by
          rw [hv, ← fl_set1 (d := ic) (u := fun n => V.int .i64 n) (fun _ => rfl)]
        have hk1 : k + 1 ≤ a.1.length := hk
        unfold k38_0
        simp -dsimp [i4, i5, i10, i48, hV.h1, hV.h2, hi, hn, i_ia hga, i_ld hga, i_ia hgb, i_ld hgb, i_ia hgc, i_ld hgc, -i_and, -i_or, e1, e2, e3, e4, e5, h7, ea, h5, hk1, hlen, hset]
        have hA : Acc ic (upd t.h 5 (some ⟨0, 1, fl ic (votL a.1 b.1 c.1 (k + 1)), none⟩)) t.nx (t.t 11) (plc a.1 b.1 c.1 k) := hV.acc.keep (Nat.le_refl _) fun j hj ho => by
          have := hV.own j ho
          simp only [upd]
          rw [if_neg (by omega)]
        have hnx := hV.nx
        have hpl := plc_len a.1 b.1 c.1 k
        by_cases d : x ≠ y ∨ y ≠ z
        · rw [if_pos d] at hp
          have fin : ∀ (ids : List Nat) (K : V → Hp → Nat → Option (List Nat) → Option (List Nat) → Prop), (∀ v' h' nx' rd wr, Acc ic h' nx' v' (plc a.1 b.1 c.1 (k + 1)) → 8 ≤ nx' → (∀ j, j < 8 → h' j = upd t.h 5 (some ⟨0, 1, fl ic (votL a.1 b.1 c.1 (k + 1)), none⟩) j) → (∀ j, ownOf v' = some j → 8 ≤ j) → K v' h' nx' rd wr) →
              appK 1 8 (t.t 11) (some (1, [.int .i64 k])) (upd (upd t.h 5 (some ⟨0, 1, fl ic (votL a.1 b.1 c.1 (k + 1)), none⟩)) t.nx (some ⟨0, 1, [.int .i64 k], none⟩)) (t.nx + 1) ids K ⟨⟩ := fun ids K hK => by
            refine push_accW (x := (k : Int)) hA rfl rfl (by omega) (by omega) fun v' h' nx' i g1 g2 g3 g4 _ _ => hK v' h' nx' _ _ (by rw [hp]; exact g1) (by omega) (fun j hj => g3 j (by omega) fun ho => ?_) (fun j ho => ?_)
            · have := hV.own j ho; omega
            · rcases g4 j ho with q | q
              · exact hV.own j q
              · omega
          by_cases dxy : x = y
          · have dyz : ¬ y = z := by rcases d with d | d; exact absurd dxy d; exact d
            subst dxy
            simp -dsimp [dyz, fillA]
            refine fin _ _ fun v' h' nx' rd wr g1 g2 g3 g4 => ?_
            simp -dsimp [hi, hn, hV.t6, i4, i5, i10, i48]
            refine ⟨⟨by simp -dsimp [hV.t6], by simp -dsimp [g3, hV.h1], by simp -dsimp [g3, hV.h2], by simp -dsimp [g3, hV.h3], by simp -dsimp [g1], by simp -dsimp [g2], by simpa using g4⟩, ?_⟩
            simp -dsimp [g3, h6, h7]
          · simp -dsimp [dxy, fillA]
            refine fin _ _ fun v' h' nx' rd wr g1 g2 g3 g4 => ?_
            simp -dsimp [hi, hn, hV.t6, i4, i5, i10, i48]
            refine ⟨⟨by simp -dsimp [hV.t6], by simp -dsimp [g3, hV.h1], by simp -dsimp [g3, hV.h2], by simp -dsimp [g3, hV.h3], by simp -dsimp [g1], by simp -dsimp [g2], by simpa using g4⟩, ?_⟩
            simp -dsimp [g3, h6, h7]
        · rw [if_neg d] at hp
          obtain ⟨rfl, rfl⟩ : x = y ∧ y = z := ⟨Classical.not_not.1 fun q => d (.inl q), Classical.not_not.1 fun q => d (.inr q)⟩
          simp -dsimp [hi, hn, i4, i5, i10, i48]
          refine ⟨⟨by simp -dsimp [hV.t6], by simp -dsimp [hV.h1], by simp -dsimp [hV.h2], by simp -dsimp [hV.h3], by simp -dsimp [hp]; exact hA, by simp -dsimp [hV.nx], by simpa using hV.own⟩, ?_⟩
          simp -dsimp [h6, h7]
      · obtain ⟨hV, i4, i5, i10, i48, h5, h6, h7⟩ := hI
        simp -dsimp [i10, h7, hV.t6, hV.h3]
        have hA : Acc ic (upd t.h 3 (some ⟨0, 0, [.sl 5 0 0 a.1.length none, .sl 6 0 0 a.2.length none], none⟩)) t.nx (t.t 11) (plc a.1 b.1 c.1 a.1.length) := hV.acc.keep (Nat.le_refl _) fun j hj ho => by
          have := hV.own j ho
          simp only [upd]
          rw [if_neg (by omega)]
        have hX := hA.ex1
        have c5 : ∀ n, expC (upd t.h 3 (some ⟨0, 0, [.sl 5 0 0 a.1.length none, .sl 6 0 0 a.2.length none], none⟩)) [] (n + 1) (.sl 5 0 0 a.1.length none) = some (rI (votL a.1 b.1 c.1 a.1.length)) := fun n => by
          have := (Acc.mk (d := ic) (l := votL a.1 b.1 c.1 a.1.length) (h := upd t.h 3 (some ⟨0, 0, [.sl 5 0 0 a.1.length none, .sl 6 0 0 a.2.length none], none⟩)) (nx := 8) (id := 5) (ver := 0) (cap := none) (by omega) (by simp [h5])).exC (n := n)
          rw [votL_len] at this
          rw [this]
          simp [votL_len]
        have c6 : ∀ n, expC (upd t.h 3 (some ⟨0, 0, [.sl 5 0 0 a.1.length none, .sl 6 0 0 a.2.length none], none⟩)) [] (n + 1) (.sl 6 0 0 a.2.length none) = some (rI a.2) := fun n =>
          (Acc.mk (d := ic) (l := a.2) (h := upd t.h 3 (some ⟨0, 0, [.sl 5 0 0 a.1.length none, .sl 6 0 0 a.2.length none], none⟩)) (nx := 8) (id := 6) (ver := 0) (cap := none) (by omega) (by simp [h6])).exC (n := n)
        simp [e, c5 7, c6 7, hX]
    · have q1' : ((a.1.length : Int) = (b.1.length : Int)) := by omega
      have q2' : ¬ ((a.1.length : Int) = (c.1.length : Int)) := by omega
      have e : votedS a b c = (([], []), [], 3) := by unfold votedS; rw [if_neg (by simpa using q'), if_pos (by omega)]
      have q3' : ¬ ((b.1.length : Int) = (c.1.length : Int)) := by omega
      simp -dsimp [q1', q2', q3', fillS]
      simp [e]
  · have q1' : ¬ ((a.1.length : Int) = (b.1.length : Int)) := by omega
    have e : votedS a b c = (([], []), [], 3) := by unfold votedS; rw [if_neg (by simpa using q'), if_pos (by omega)]
    simp -dsimp [q1', fillS]
    simp [e]
structure VR (a b c : Bank) (k : Nat) (t : St) : Prop where
  t6 : t.t 6 = .pt 3 0 0
  h0 : t.h 0 = some ⟨0, 0, [rI a.1, rI a.2], none⟩
  h1 : t.h 1 = some ⟨0, 0, [rI b.1, rI b.2], none⟩
  h2 : t.h 2 = some ⟨0, 0, [rI c.1, rI c.2], none⟩
  h3 : t.h 3 = some ⟨0, 0, [.ns, .ns], none⟩
  acc : Acc ic t.h t.nx (t.t 13) (plc a.1 b.1 c.1 k)
  nx : 11 ≤ t.nx
  own : ∀ j, ownOf (t.t 13) = some j → 11 ≤ j
theorem VotedR_ok (a b c : Bank) : OkF Try.prog 39 [bkV a, bkV b, bkV c] (.tup [bkV (votedS a b c).1, rI (votedS a b c).2.1, .int .i64 (votedS a b c).2.2], []) := by
  refine OkF.G0 hm h39 (of_decide_eq_true rfl) ?_
  unfold c39
  have hfe := fe_first [bankE a, bankE b, bankE c]
  simp -dsimp [fillA]
  refine for_lt 3 (fun k t => t.t 21 = .sl 4 0 0 3 (some 3) ∧ t.t 3 = .pt 0 0 0 ∧ t.t 4 = .pt 1 0 0 ∧ t.t 5 = .pt 2 0 0 ∧ t.t 6 = .pt 3 0 0 ∧ t.nx = 5 + k ∧ t.h 0 = some ⟨0, 0, [rI a.1, rI a.2], none⟩ ∧ t.h 1 = some ⟨0, 0, [rI b.1, rI b.2], none⟩ ∧ t.h 2 = some ⟨0, 0, [rI c.1, rI c.2], none⟩ ∧ t.h 3 = some ⟨0, 0, [.ns, .ns], none⟩ ∧
    t.h 4 = some ⟨0, 2, [rI a.1, rI a.2, rI b.1, rI b.2, rI c.1, rI c.2], none⟩ ∧ fe (lAt [bankE a, bankE b, bankE c]) k = 0) rfl (by decide) (by simp -dsimp [fe]) (by simp -dsimp) (by simp -dsimp) (fun k t hk hI hi hn => ?_) (fun t hI hi hn => ?_)
  · obtain ⟨i21, i3, i4, i5, i6, inx, h0, h1, h2, h3, h4, iu⟩ := hI
    obtain ⟨x, hx⟩ : ∃ x : Bank, [a, b, c][k]? = some x := ⟨_, List.getElem?_eq_getElem (by simpa using hk)⟩
    have hE : lAt [bankE a, bankE b, bankE c] k = bankE x := by
      have : [bankE a, bankE b, bankE c][k]? = some (bankE x) := by
        rw [show [bankE a, bankE b, bankE c] = [a, b, c].map bankE from rfl, List.getElem?_map, hx]; rfl
      simp [lAt, this]
    have ea : ∀ K, iaddrK t.h (.sl 4 0 0 3 (some 3)) (.int .i64 k) 2 K ⟨⟩ = K (.pt 4 0 (k * 2)) [4] := fun K => by
      rw [iaddr_sl h4 rfl hk, Nat.zero_add]
    have el : ldA t.h (.pt 4 0 (k * 2)) (some 2) = some (.agg [rI x.1, rI x.2]) := by
      rw [ld_pts', h4]
      match k, hk, hx with
      | 0, _, hx => simp at hx; subst hx; rfl
      | 1, _, hx => simp at hx; subst hx; rfl
      | 2, _, hx => simp at hx; subst hx; rfl
    unfold k39_0
    simp -dsimp [i21, hi, hn, ea, el, i3, i4, i5, i6, inx]
    refine call_pure (CheckBankR_ok x) (by simp) rfl ?_
    have n3 : ¬ 3 = 5 + k := by omega
    simp -dsimp
    refine condK_of ?_ ?_ <;> intro q <;> simp -dsimp [i3, i4, i5, i6, hi, hn, h0, h1, h2, h3, h4, i21, fillS, n3]
    · have q' : bankE x ≠ 0 := by simpa using q
      have hf := fe_stop iu (n := 3) (by rw [hE]; exact q') hk
      have e : votedS a b c = (([], []), [], bankE x) := by
        have : firstE [bankE a, bankE b, bankE c] = bankE x := by rw [← hfe]; exact hf.trans hE
        unfold votedS
        rw [this, if_pos q']
      simp [e]
    · have q' : bankE x = 0 := by simpa using q
      refine ⟨by omega, by simp [show ¬ 0 = 5 + k by omega, h0], by simp [show ¬ 1 = 5 + k by omega, h1], by simp [show ¬ 2 = 5 + k by omega, h2], by simp [show ¬ 4 = 5 + k by omega, h4], fe_step iu (by rw [hE, q'])⟩
  obtain ⟨i21, i3, i4, i5, i6, inx, h0, h1, h2, h3, h4, iu⟩ := hI
  have q' : firstE [bankE a, bankE b, bankE c] = 0 := by rw [← hfe]; exact iu
  have hz : bankE a = 0 ∧ bankE b = 0 ∧ bankE c = 0 := by
    simp only [firstE] at q'
    split at q' <;> rename_i h1
    · split at q' <;> rename_i h2
      · split at q' <;> rename_i h3
        · exact ⟨h1, h2, h3⟩
        · exact absurd q' h3
      · exact absurd q' h2
    · exact absurd q' h1
  have ga := bank_good hz.1
  have gb := bank_good hz.2.1
  have gc := bank_good hz.2.2
  have ma := ga.most
  simp -dsimp [i3, i4, i5, i6, h0, h1, h2, h3]
  by_cases q1 : a.1.length = b.1.length
  · by_cases q2 : a.1.length = c.1.length
    · have q1' : ((b.1.length : Int) = (a.1.length : Int)) := by omega
      have q2' : ((c.1.length : Int) = (a.1.length : Int)) := by omega
      have e : votedS a b c = ((votL a.1 b.1 c.1 a.1.length, a.2), plc a.1 b.1 c.1 a.1.length, 0) := by unfold votedS; rw [if_neg (by simpa using q'), if_neg (by omega)]
      simp -dsimp [q1', q2', i3, i4, i5, i6, h0, h1, h2, h3]
      refine call_own (copiedR_ok a ga) ?_ ?_
      · exact okRes_of (by simp)
      simp -dsimp [cpR, addB, inx, i3, h0]
      refine for_lt a.1.length (fun k t => VR a b c k t ∧ t.t 3 = .pt 0 0 0 ∧ t.t 4 = .pt 1 0 0 ∧ t.t 5 = .pt 2 0 0 ∧ t.t 12 = .pt 10 0 0 ∧ t.h 8 = some ⟨0, 1, fl ic (votL a.1 b.1 c.1 k), none⟩ ∧ t.h 9 = some ⟨0, 1, fl ic a.2, none⟩ ∧ t.h 10 = some ⟨0, 0, [.sl 8 0 0 a.1.length none, .sl 9 0 0 a.2.length none], none⟩) rfl (by omega) ?_ (by simp -dsimp) (by simp -dsimp [q1', q2']) (fun k t hk hI hi hn => ?_) (fun t hI hi hn => ?_)
      · refine ⟨⟨by simp -dsimp [i6], by simp -dsimp [h0], by simp -dsimp [h1], by simp -dsimp [h2], by simp -dsimp [h3], by simp -dsimp [Acc.nil, plc], by simp -dsimp, fun j hj => by simp [ownOf] at hj⟩, ?_⟩
        simp -dsimp [votL, i3, i4, i5]
      · obtain ⟨hV, i3, i4, i5, i12, h8, h9, h10⟩ := hI
        have hga : a.1[k]? = some a.1[k] := List.getElem?_eq_getElem hk
        have hgb : b.1[k]? = some (b.1[k]'(by omega)) := List.getElem?_eq_getElem (by omega)
        have hgc : c.1[k]? = some (c.1[k]'(by omega)) := List.getElem?_eq_getElem (by omega)
        generalize a.1[k] = x at hga
        generalize b.1[k]'(by omega) = y at hgb
        generalize c.1[k]'(by omega) = z at hgc
        have hx := ga.c x (List.mem_of_getElem? hga)
        have hy := gb.c y (List.mem_of_getElem? hgb)
        have hz := gc.c z (List.mem_of_getElem? hgc)
        have e1 := vote_and hx hy
        have e2 := vote_and hy hz
        have e3 := vote_and hx hz
        rw [Nat.and_comm x.toNat z.toNat] at e3
        have l1 := and_lt (y := y) hx
        have l2 := and_lt (y := z) hy
        have l3 := and_lt (y := x) hz
        have hv : votL a.1 b.1 c.1 (k + 1) = (votL a.1 b.1 c.1 k).set k (((x.toNat &&& y.toNat) ||| (y.toNat &&& z.toNat) ||| (z.toNat &&& x.toNat) : Nat) : Int) := by
          rw [show votL a.1 b.1 c.1 (k + 1) = (votL a.1 b.1 c.1 k).set k (voteI (lAt a.1 k) (lAt b.1 k) (lAt c.1 k)) from rfl, lAt_eq hga, lAt_eq hgb, lAt_eq hgc]; rfl
        have hp : plc a.1 b.1 c.1 (k + 1) = if x ≠ y ∨ y ≠ z then plc a.1 b.1 c.1 k ++ [(k : Int)] else plc a.1 b.1 c.1 k := by
          rw [show plc a.1 b.1 c.1 (k + 1) = if lAt a.1 k ≠ lAt b.1 k ∨ lAt b.1 k ≠ lAt c.1 k then plc a.1 b.1 c.1 k ++ [(k : Int)] else plc a.1 b.1 c.1 k from rfl, lAt_eq hga, lAt_eq hgb, lAt_eq hgc]
        generalize x.toNat &&& y.toNat = xy at *
        generalize y.toNat &&& z.toNat = yz at *
        generalize z.toNat &&& x.toNat = zx at *
        have e4 := A_or (a := xy) (b := yz) (by omega) (by omega)
        have e5 := A_or (a := xy ||| yz) (b := zx) (Nat.or_lt_two_pow (by omega) (by omega)) (by omega)
        generalize xy ||| yz = u at *
        generalize u ||| zx = v at *
        have hlen : (fl ic (votL a.1 b.1 c.1 k)).length = a.1.length := by rw [flat_len, votL_len]; simp
        have ea : ∀ K, iaddrK t.h (.sl 8 0 0 a.1.length none) (.int .i64 k) 1 K ⟨⟩ = K (.pt 8 0 k) [8] := fun K => by
          rw [iaddr_sl h8 rfl hk, Nat.zero_add, Nat.mul_one]
        have hset : (fl ic (votL a.1 b.1 c.1 k)).set k (.int .i64 v) = fl ic (votL a.1 b.1 c.1 (k + 1)) := by
          rw [hv, ← fl_set1 (d := ic) (u := fun n => V.int .i64 n) (fun _ => rfl)]
        have hk1 : k + 1 ≤ a.1.length := hk
        unfold k39_1
        simp -dsimp [i3, i4, i5, i12, hV.h0, hV.h1, hV.h2, hi, hn, i_ia hga, i_ld hga, i_ia hgb, i_ld hgb, i_ia hgc, i_ld hgc, -i_and, -i_or, e1, e2, e3, e4, e5, h10, ea, h8, hk1, hlen, hset]
        have hA : Acc ic (upd t.h 8 (some ⟨0, 1, fl ic (votL a.1 b.1 c.1 (k + 1)), none⟩)) t.nx (t.t 13) (plc a.1 b.1 c.1 k) := hV.acc.keep (Nat.le_refl _) fun j hj ho => by
          have := hV.own j ho
          simp only [upd]
          rw [if_neg (by omega)]
        have hnx := hV.nx
        have hpl := plc_len a.1 b.1 c.1 k
        by_cases d : x ≠ y ∨ y ≠ z
        · rw [if_pos d] at hp
          have fin : ∀ (ids : List Nat) (K : V → Hp → Nat → Option (List Nat) → Option (List Nat) → Prop), (∀ v' h' nx' rd wr, Acc ic h' nx' v' (plc a.1 b.1 c.1 (k + 1)) → 11 ≤ nx' → (∀ j, j < 11 → h' j = upd t.h 8 (some ⟨0, 1, fl ic (votL a.1 b.1 c.1 (k + 1)), none⟩) j) → (∀ j, ownOf v' = some j → 11 ≤ j) → K v' h' nx' rd wr) →
              appK 1 8 (t.t 13) (some (1, [.int .i64 k])) (upd (upd t.h 8 (some ⟨0, 1, fl ic (votL a.1 b.1 c.1 (k + 1)), none⟩)) t.nx (some ⟨0, 1, [.int .i64 k], none⟩)) (t.nx + 1) ids K ⟨⟩ := fun ids K hK => by
            refine push_accW (x := (k : Int)) hA rfl rfl (by omega) (by omega) fun v' h' nx' i g1 g2 g3 g4 _ _ => hK v' h' nx' _ _ (by rw [hp]; exact g1) (by omega) (fun j hj => g3 j (by omega) fun ho => ?_) (fun j ho => ?_)
            · have := hV.own j ho; omega
            · rcases g4 j ho with q | q
              · exact hV.own j q
              · omega
          by_cases dxy : x = y
          · have dyz : ¬ y = z := by rcases d with d | d; exact absurd dxy d; exact d
            subst dxy
            simp -dsimp [dyz, fillA]
            refine fin _ _ fun v' h' nx' rd wr g1 g2 g3 g4 => ?_
            simp -dsimp [hi, hn, hV.t6, i3, i4, i5, i12]
            refine ⟨⟨by simp -dsimp [hV.t6], by simp -dsimp [g3, hV.h0], by simp -dsimp [g3, hV.h1], by simp -dsimp [g3, hV.h2], by simp -dsimp [g3, hV.h3], by simp -dsimp [g1], by simp -dsimp [g2], by simpa using g4⟩, ?_⟩
            simp -dsimp [g3, h9, h10]
          · simp -dsimp [dxy, fillA]
            refine fin _ _ fun v' h' nx' rd wr g1 g2 g3 g4 => ?_
            simp -dsimp [hi, hn, hV.t6, i3, i4, i5, i12]
            refine ⟨⟨by simp -dsimp [hV.t6], by simp -dsimp [g3, hV.h0], by simp -dsimp [g3, hV.h1], by simp -dsimp [g3, hV.h2], by simp -dsimp [g3, hV.h3], by simp -dsimp [g1], by simp -dsimp [g2], by simpa using g4⟩, ?_⟩
            simp -dsimp [g3, h9, h10]
        · rw [if_neg d] at hp
          obtain ⟨rfl, rfl⟩ : x = y ∧ y = z := ⟨Classical.not_not.1 fun q => d (.inl q), Classical.not_not.1 fun q => d (.inr q)⟩
          simp -dsimp [hi, hn, i3, i4, i5, i12]
          refine ⟨⟨by simp -dsimp [hV.t6], by simp -dsimp [hV.h0], by simp -dsimp [hV.h1], by simp -dsimp [hV.h2], by simp -dsimp [hV.h3], by simp -dsimp [hp]; exact hA, by simp -dsimp [hV.nx], by simpa using hV.own⟩, ?_⟩
          simp -dsimp [h9, h10]
      · obtain ⟨hV, i3, i4, i5, i12, h8, h9, h10⟩ := hI
        simp -dsimp [i12, h10, hV.t6, hV.h3]
        have hA : Acc ic (upd t.h 3 (some ⟨0, 0, [.sl 8 0 0 a.1.length none, .sl 9 0 0 a.2.length none], none⟩)) t.nx (t.t 13) (plc a.1 b.1 c.1 a.1.length) := hV.acc.keep (Nat.le_refl _) fun j hj ho => by
          have := hV.own j ho
          simp only [upd]
          rw [if_neg (by omega)]
        have hX := hA.ex1
        have c5 : ∀ n, expC (upd t.h 3 (some ⟨0, 0, [.sl 8 0 0 a.1.length none, .sl 9 0 0 a.2.length none], none⟩)) [] (n + 1) (.sl 8 0 0 a.1.length none) = some (rI (votL a.1 b.1 c.1 a.1.length)) := fun n => by
          have := (Acc.mk (d := ic) (l := votL a.1 b.1 c.1 a.1.length) (h := upd t.h 3 (some ⟨0, 0, [.sl 8 0 0 a.1.length none, .sl 9 0 0 a.2.length none], none⟩)) (nx := 10) (id := 8) (ver := 0) (cap := none) (by omega) (by simp [h8])).exC (n := n)
          rw [votL_len] at this
          rw [this]
          simp [votL_len]
        have c6 : ∀ n, expC (upd t.h 3 (some ⟨0, 0, [.sl 8 0 0 a.1.length none, .sl 9 0 0 a.2.length none], none⟩)) [] (n + 1) (.sl 9 0 0 a.2.length none) = some (rI a.2) := fun n =>
          (Acc.mk (d := ic) (l := a.2) (h := upd t.h 3 (some ⟨0, 0, [.sl 8 0 0 a.1.length none, .sl 9 0 0 a.2.length none], none⟩)) (nx := 10) (id := 9) (ver := 0) (cap := none) (by omega) (by simp [h9])).exC (n := n)
        simp [e, c5 7, c6 7, hX]
    · have q1' : ((b.1.length : Int) = (a.1.length : Int)) := by omega
      have q2' : ¬ ((c.1.length : Int) = (a.1.length : Int)) := by omega
      have e : votedS a b c = (([], []), [], 3) := by unfold votedS; rw [if_neg (by simpa using q'), if_pos (by omega)]
      simp -dsimp [q1', q2', fillS, i3, i4, i5, i6, h0, h1, h2, h3]
      simp [e]
  · have q1' : ¬ ((b.1.length : Int) = (a.1.length : Int)) := by omega
    have e : votedS a b c = (([], []), [], 3) := by unfold votedS; rw [if_neg (by simpa using q'), if_pos (by omega)]
    simp -dsimp [q1', fillS, i3, i4, i5, i6, h0, h1, h2, h3]
    simp [e]
theorem voted_len (a b c : Bank) : (votedS a b c).1.1.length < 2 ^ 62 ∧ (votedS a b c).1.2.length < 2 ^ 62 ∧ (votedS a b c).2.1.length < 2 ^ 62 := by
  unfold votedS
  split
  · simp
  · rename_i h
    have hz : bankE a = 0 := by
      simp only [firstE] at h
      split at h <;> rename_i h1
      · exact h1
      · simp at h; exact absurd h h1
    have ga := bank_good hz
    have := ga.most; have := ga.len
    have := plc_len a.1 b.1 c.1 a.1.length
    split
    · simp
    · simp only [votL_len]
      omega
theorem MemoryVotedMatchesSpec (a b c : Bank) : OkF Try.prog 9 [bkV a, bkV b, bkV c] (.bool true, []) := by
  obtain ⟨l1, l2, l3⟩ := voted_len a b c
  refine OkF.W0 hm h9 (of_decide_eq_true rfl) ?_
  unfold c9
  simp -dsimp
  refine call_pure (Voted_ok a b c) (by simp) (by simp) ?_
  simp -dsimp
  refine call_pure (VotedR_ok a b c) (by simp) (by simp) ?_
  simp -dsimp
  refine call_pure (Same_ok _ _ l1 l2) (by simp) (by simp) ?_
  simp -dsimp
  refine call_pure (equalI_ok _ _ l3) (by simp) (by simp) ?_
  simp -dsimp
  refine call_pure awake_ok (by simp) (by simp) ?_
  simp -dsimp
end Go.Proofs.P3
