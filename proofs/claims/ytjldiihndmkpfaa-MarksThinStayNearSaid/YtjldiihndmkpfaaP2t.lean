/- Thinner marks stay near. -/
import Derived.Test.YtjldiihndmkpfaaP2s
set_option linter.unusedVariables false
set_option linter.unusedSimpArgs false
set_option maxRecDepth 10000
set_option maxHeartbeats 8000000
namespace Go.Proofs.P3
open Go.Ex
structure Ch (m : List Mark) (s : Int) (I : List Nat) : Prop where
  h0 : I[0]? = some 0
  lt : ∀ (k a : Nat), I[k]? = some a → a < m.length
  step : ∀ (k a b : Nat), I[k]? = some a → I[k + 1]? = some b → a < b ∧ Str m s a b
theorem Ch.snoc {m : List Mark} {s : Int} {I : List Nat} {i : Nat} (h : Ch m s (I ++ [i])) {j : Nat} (hj : j < m.length) (hij : i < j) (hs : Str m s i j) : Ch m s (I ++ [i] ++ [j]) := by
  have hlen : (I ++ [i]).length = I.length + 1 := by simp
  have lo : ∀ k, k < I.length + 1 → (I ++ [i] ++ [j])[k]? = (I ++ [i])[k]? := fun k hk => List.getElem?_append_left (by simpa using hk)
  have at1 : (I ++ [i] ++ [j])[I.length + 1]? = some j := by rw [List.getElem?_append_right (by simp)]; simp
  have ati : (I ++ [i])[I.length]? = some i := by simp
  have no : ∀ k, I.length + 1 < k → (I ++ [i] ++ [j])[k]? = none := fun k hk => List.getElem?_eq_none (by simp; omega)
  refine ⟨by rw [lo 0 (by omega)]; exact h.h0, fun k a ha => ?_, fun k a b ha hb => ?_⟩
  · rcases Nat.lt_trichotomy k (I.length + 1) with q | q | q
    · rw [lo k q] at ha; exact h.lt k a ha
    · subst q; rw [at1] at ha; injection ha with ha; omega
    · rw [no k q] at ha; cases ha
  · rcases Nat.lt_trichotomy (k + 1) (I.length + 1) with q | q | q
    · rw [lo k (by omega)] at ha; rw [lo (k + 1) q] at hb; exact h.step k a b ha hb
    · rw [q, at1] at hb
      injection hb with hb
      rw [lo k (by omega), show k = I.length by omega, ati] at ha
      injection ha with ha
      subst ha hb
      exact ⟨hij, hs⟩
    · rw [no _ q] at hb; cases hb
theorem thinF_ch {m : List Mark} {s : Int} : ∀ (f i : Nat) (I : List Nat), m.length ≤ i + f → i < m.length → Ch m s (I ++ [i]) → ∃ J : List Nat, Ch m s (J ++ [m.length - 1]) ∧ thinF m s f i ((I ++ [i]).map (mAt m)) = (J ++ [m.length - 1]).map (mAt m)
  | 0, i, I, h, hi, hc => by omega
  | f + 1, i, I, h, hi, hc => by
    unfold thinF
    by_cases q : i + 1 < m.length
    · rw [if_pos q]
      have hn := nxN_is (m := m) (s := s) q
      generalize nxN m s i = j at *
      have := hn.gt
      obtain ⟨J, h1, h2⟩ := thinF_ch f j (I ++ [i]) (by omega) hn.lt (hc.snoc hn.lt hn.gt hn.str)
      refine ⟨J, h1, ?_⟩
      rw [← h2, List.map_append (l₂ := [j])]
      rfl
    · rw [if_neg q]
      exact ⟨I, by rw [show m.length - 1 = i by omega]; exact hc, by rw [show m.length - 1 = i by omega]⟩
theorem thin_ch {m : List Mark} {s : Int} (h : 0 < m.length) : ∃ J : List Nat, Ch m s (J ++ [m.length - 1]) ∧ thinF m s m.length 0 [mAt m 0] = (J ++ [m.length - 1]).map (mAt m) :=
  thinF_ch m.length 0 [] (by omega) h ⟨rfl, fun k a ha => (by cases k with | zero => (injection ha with ha; omega) | succ k => cases ha), fun k a b ha hb => (by cases hb)⟩
theorem Ch.mono {m : List Mark} {s : Int} {I : List Nat} (h : Ch m s I) : ∀ (k a : Nat), I[k]? = some a → k ≤ a
  | 0, a, _ => Nat.zero_le _
  | k + 1, a, ha => by
    have hk : k < I.length := by have := (List.getElem?_eq_some_iff.1 ha).1; omega
    have hb := List.getElem?_eq_getElem hk
    have := h.mono k _ hb
    have := (h.step k _ _ hb ha).1
    omega
structure ThinOk (m : List Mark) (s : Int) (T : List Mark) : Prop where
  ok : MarksOk T
  first : T[0]? = some (mAt m 0)
  last : T[T.length - 1]? = some (mAt m (m.length - 1))
  mem : ∀ (k : Nat) x, T[k]? = some x → x ∈ m
  near : ∀ i, i < m.length → 2 ≤ T.length → (-s ≤ atS T (mAt m i).1 - (mAt m i).2.1 ∧ atS T (mAt m i).1 - (mAt m i).2.1 ≤ s) ∧ 0 ≤ atS T (mAt m i).1 ∧ atS T (mAt m i).1 ≤ 1000000000000
theorem thin_facts {m : List Mark} (hM : MarksOk m) {s : Int} (s0 : 0 ≤ s) : ThinOk m s (thinF m s m.length 0 [mAt m 0]) := by
  have g := Good.of hM
  obtain ⟨J, hc, e⟩ := thin_ch (m := m) (s := s) g.pos
  rw [e]
  have hp := g.pos; have hl := g.most
  have hlast : (J ++ [m.length - 1])[J.length]? = some (m.length - 1) := by simp
  have hlen : (J ++ [m.length - 1]).length = J.length + 1 := by simp
  generalize J ++ [m.length - 1] = I at *
  have hJ := hc.mono _ _ hlast
  have gt : ∀ k : Nat, (I.map (mAt m))[k]? = (I[k]?).map (mAt m) := fun k => by simp
  have at' : ∀ (k a : Nat), I[k]? = some a → mAt (I.map (mAt m)) k = mAt m a := fun k a h => by
    show ((I.map (mAt m))[k]?).getD _ = _
    rw [gt, h]; rfl
  have hOk : MarksOk (I.map (mAt m)) := by
    refine ⟨by simp; omega, by simp; omega, fun x hx => ?_, fun k x y hx hy => ?_⟩
    · obtain ⟨a, ha, rfl⟩ := List.mem_map.1 hx
      obtain ⟨k, hk⟩ := List.getElem?_of_mem ha
      exact hM.ok _ (mAt_mem (hc.lt k a hk))
    · rw [gt] at hx hy
      obtain ⟨a, ha, rfl⟩ := Option.map_eq_some_iff.1 hx
      obtain ⟨b, hb, rfl⟩ := Option.map_eq_some_iff.1 hy
      exact g.inc a b (hc.step k a b ha hb).1 (hc.lt _ _ hb)
  refine ⟨hOk, by rw [gt, hc.h0]; rfl, by rw [gt]; simp only [List.length_map]; rw [show I.length - 1 = J.length by omega, hlast]; rfl, fun k x hx => ?_, fun i hi h2 => ?_⟩
  · rw [gt] at hx
    obtain ⟨a, ha, rfl⟩ := Option.map_eq_some_iff.1 hx
    exact mAt_mem (hc.lt _ _ ha)
  · have gT := Good.of hOk
    have hL := line_is gT h2 (mAt m i).1
    have e1 : atS (I.map (mAt m)) (mAt m i).1 = segS (I.map (mAt m)) (lineS (I.map (mAt m)) (mAt m i).1) (mAt m i).1 := rfl
    rw [e1]
    generalize lineS (I.map (mAt m)) (mAt m i).1 = k at *
    have k1 := hL.lt
    simp only [List.length_map] at k1 h2
    obtain ⟨a, ha⟩ : ∃ a, I[k]? = some a := ⟨_, List.getElem?_eq_getElem (by omega)⟩
    obtain ⟨b, hb⟩ : ∃ b, I[k + 1]? = some b := ⟨_, List.getElem?_eq_getElem (by omega)⟩
    obtain ⟨hab, hst⟩ := hc.step k a b ha hb
    have hbl := hc.lt _ _ hb
    have e2 : segS (I.map (mAt m)) k (mAt m i).1 = thr (mAt m a) (mAt m b) (mAt m i).1 := by
      unfold segS thr
      rw [at' k a ha, at' (k + 1) b hb]
    rw [e2]
    have hai : a ≤ i := by
      rcases hL.down with q | q
      · rw [at' k a ha] at q
        refine Nat.le_of_not_lt fun h => ?_
        have := g.inc i a h (by omega)
        omega
      · subst q
        rw [hc.h0] at ha
        injection ha with ha
        omega
    have hib : i ≤ b := by
      rcases hL.up with q | q
      · rw [at' (k + 1) b hb] at q
        refine Nat.le_of_not_lt fun h => ?_
        have := g.inc b i h hi
        omega
      · simp only [List.length_map] at q
        rw [show k + 1 = J.length by omega, hlast] at hb
        injection hb with hb
        omega
    have la := g.le hai hi
    have lb := g.le hib hbl
    obtain ⟨_, t1, t2⟩ := throughG_ok g hab hbl la.1 lb.1
    obtain ⟨⟨_, _⟩, ⟨a3, a4⟩, _⟩ := g.ok a (by omega)
    obtain ⟨⟨_, _⟩, ⟨b3, b4⟩, _⟩ := g.ok b hbl
    have hinc := g.inc a b hab hbl
    refine ⟨?_, by omega, by omega⟩
    by_cases q1 : i = a
    · subst q1
      have : thr (mAt m i) (mAt m b) (mAt m i).1 = (mAt m i).2.1 := by
        unfold thr
        rw [Int.sub_self, near_zero (by omega), Int.add_zero]
      omega
    · by_cases q2 : i = b
      · subst q2
        have : thr (mAt m a) (mAt m i) (mAt m i).1 = (mAt m i).2.1 := by
          unfold thr
          rw [near_full (by omega) (by omega)]
          omega
        omega
      · exact hst i (by omega) (by omega)
theorem mark_seq (x y : Mark) : seqA false [0, 0, 0] (mkV x) (mkV y) = some (.bool (decide (x = y))) := by
  obtain ⟨a, b, c⟩ := x
  obtain ⟨d, e, f⟩ := y
  by_cases h1 : a = d <;> by_cases h2 : b = e <;> by_cases h3 : c = f <;> simp [seqA, eqCells, tagOf, h1, h2, h3]
theorem mark_seqT (x y : Mark) : seqA true [0, 0, 0] (mkV x) (mkV y) = some (.bool (!decide (x = y))) := by
  obtain ⟨a, b, c⟩ := x
  obtain ⟨d, e, f⟩ := y
  by_cases h1 : a = d <;> by_cases h2 : b = e <;> by_cases h3 : c = f <;> simp [seqA, eqCells, tagOf, h1, h2, h3]
theorem indexM_ok (l : List Mark) (hl : l.length < 2 ^ 62) (x : Mark) : OkF Try.prog 83 [rM l, mkV x] (.int .i64 (ixI (fun a => decide (x = a)) l), []) := by
  refine OkF.W0 hm h83 (of_decide_eq_true rfl) ?_
  unfold c83
  simp -dsimp
  refine for_lt l.length (fun k t => t.t 0 = rM l ∧ t.t 3 = .pt 0 0 0 ∧ t.h 0 = some ⟨0, 0, [.int .i64 x.1, .int .i64 x.2.1, .int .i64 x.2.2], none⟩ ∧ Not' (fun a => decide (x = a)) l k) rfl hl (by simp -dsimp [Not'.zero]) (by simp -dsimp) (by simp -dsimp) (fun k t hk hI hi hn => ?_) (fun t hI hi hn => ?_)
  · obtain ⟨i0, i3, h0, iu⟩ := hI
    have hg := get_mAt hk
    generalize mAt l k = y at hg
    have hq := mark_seq x y
    unfold k83_0
    simp -dsimp [i0, i3, h0, hi, hn, m_ia hg, m_ld hg, hq]
    refine condK_of ?_ ?_ <;> intro q <;> simp -dsimp [q, i0, i3, h0, hi, hn]
    · simp [ixI_stop iu hg q]
    · exact iu.succ hg q
  · obtain ⟨i0, i3, h0, iu⟩ := hI
    simp -dsimp
    simp [ixI_none iu]
theorem containsM_ok (l : List Mark) (hl : l.length < 2 ^ 62) (x : Mark) (hx : x ∈ l) : OkF Try.prog 35 [rM l, mkV x] (.bool true, []) := by
  refine OkF.W0 hm h35 (of_decide_eq_true rfl) ?_
  unfold c35
  simp -dsimp
  refine call_pure (indexM_ok l hl x) (by simp) rfl ?_
  have := ixI_neg (p := fun a => decide (x = a)) (l := l)
  rw [List.any_eq_false] at this
  simp only [decide_eq_true_eq] at this
  have h0 : 0 ≤ ixI (fun a => decide (x = a)) l := by
    rcases Int.lt_or_le (ixI (fun a => decide (x = a)) l) 0 with q | q
    · exact absurd rfl (this.1 q x hx)
    · exact q
  simp -dsimp [h0]
end Go.Proofs.P3
