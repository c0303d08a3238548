/- The reference's: what procedures call. -/
import Derived.Test.YtaegjihmpgdfcaaP6r
set_option linter.unusedVariables false
set_option linter.unusedSimpArgs false
set_option maxRecDepth 10000
set_option maxHeartbeats 8000000
namespace Go.Proofs.P6
open Go.Ex
theorem hasText_ok (l : List (List UInt8)) (s : List UInt8) (hl : l.length < 2 ^ 62) : OkF Try.prog 117 [.ro l.length (fl Cd.str l), .str s] (.bool (decide (s ∈ l)), []) := by
  have e62 := Go.Ex.e62
  refine OkF.W0 hm h117 (of_decide_eq_true rfl) ?_
  unfold c117
  simp -dsimp
  refine loop_to 5 l.length (fun k t => t.t 5 = .int .i64 k ∧ t.t 0 = .ro l.length (fl Cd.str l) ∧ t.t 1 = .str s ∧ Not' (fun x => decide (x = s)) l k) (fun k t h => h.1) (by simp -dsimp [Not'.zero]) (fun k t hk hI => ?_)
  obtain ⟨i5, i0, i1, iu⟩ := hI
  unfold l117_0
  by_cases hlt : k < l.length
  · have hlt' : (k : Int) < (l.length : Int) := by omega
    have hw : IntKind.i64.wrap ((k : Int) + 1) = (k : Int) + 1 := IntWalk.i64_in _ (by omega)
    have hg : l[k]? = some l[k] := List.getElem?_eq_getElem hlt
    generalize l[k] = x at hg
    have e1 : ∀ K, iaddrK t.h (.ro l.length (fl Cd.str l)) (.int .i64 k) 1 K ⟨⟩ = K (.rp (fl Cd.str l) k) [] := fun K => by
      have := iaddr_fl (kk := .i64) (h := t.h) (K := K) (d := Cd.str) (n := 1) rfl (by decide) hg
      rwa [Nat.mul_one] at this
    have e2 : ∀ h, ldA h (.rp (fl Cd.str l) k) none = some (.str x) := fun h => by
      have := ld_fl0 (h := h) (d := Cd.str) (n := 1) rfl (by decide) hg
      rwa [Nat.mul_one] at this
    simp -dsimp [i5, i1, i0, hlt', e1, e2]
    refine condK_of ?_ ?_ <;> intro q <;> simp -dsimp [q, i5, i1, i0, hw, hlt]
    · have hx : x = s := by simpa using q
      have := List.mem_of_getElem? hg
      rw [hx] at this
      simp [this]
    · exact iu.succ hg q
  · have hkl : k = l.length := by omega
    subst hkl
    have : s ∉ l := fun h => by
      obtain ⟨i, hi⟩ := List.getElem?_of_mem h
      have := iu i s (List.getElem?_eq_some_iff.1 hi).1 hi
      simp at this
    simp -dsimp [i5, i0, this]
theorem prI_get {p : List Prc} {s : List UInt8} (h : 0 ≤ prI p s) : ∃ x, p[(prI p s).toNat]? = some x ∧ x.1 = s := by
  unfold prI at h ⊢
  rcases ixI_cases (fun x : Prc => decide (x.1 = s)) p with ⟨h1, _⟩ | ⟨k, a, h1, h2, h3, _⟩
  · omega
  · rw [h1]
    exact ⟨a, by simpa using h2, by simpa using h3⟩
theorem prI_inj {p : List Prc} {s t : List UInt8} (h : 0 ≤ prI p s) (e : prI p s = prI p t) : s = t := by
  obtain ⟨x, h1, h2⟩ := prI_get h
  obtain ⟨y, h3, h4⟩ := prI_get (p := p) (s := t) (by omega)
  rw [← e, h1] at h3
  injection h3 with h3
  rw [← h2, ← h4, h3]
def TwoS (t : St) (a b : Nat) (l m : List (List UInt8)) : Prop := Acc Cd.str t.h t.nx (t.t a) l ∧ Acc Cd.str t.h t.nx (t.t b) m ∧ (∀ j, ownOf (t.t a) = some j → ownOf (t.t b) ≠ some j)
def DG (p : List Prc) (from' to : List UInt8) (seen : List (List UInt8)) : Prop := seen.Nodup ∧ (∀ s ∈ seen, 0 ≤ prI p s ∧ s ≠ to ∧ Tc (cl p) (prI p from') (prI p s))
def DC (p : List Prc) (seen : List (List UInt8)) (a : List UInt8) (n : Nat) : Prop := ∀ x j s, p[(prI p a).toNat]? = some x → j < n → x.2[j]? = some s → s.1 = 6 → s.2.1 ∈ seen
def DI (p : List Prc) (from' to : List UInt8) (m : Nat) (t : St) : Prop := ∃ (at' : Nat) (seen : List (List UInt8)), t.t 0 = .ro p.length (fl procCd p) ∧ t.t 2 = .str to ∧ t.t 9 = .int .i64 at' ∧ TwoS t 7 8 seen (from' :: seen) ∧ DG p from' to seen ∧
  (∀ k a, k < at' → (from' :: seen)[k]? = some a → ∀ n, DC p seen a n) ∧ m + at' = p.length + 1
def DJ (p : List Prc) (x : Prc) (from' to : List UInt8) (at' j : Nat) (c : Nat) (t : St) : Prop := ∃ (seen : List (List UInt8)) (cur : List UInt8), t.t 11 = .int .i64 j ∧ t.t 0 = .ro p.length (fl procCd p) ∧ t.t 2 = .str to ∧ t.t 9 = .int .i64 at' ∧ t.t 10 = .pt c 0 0 ∧ c < t.nx ∧
  t.h c = some ⟨0, 0, [.str x.1, .ro x.2.length (fl stepCd x.2)], none⟩ ∧ (∀ k, ownOf (t.t 7) = some k → k ≠ c) ∧ (∀ k, ownOf (t.t 8) = some k → k ≠ c) ∧ TwoS t 7 8 seen (from' :: seen) ∧ DG p from' to seen ∧
  (∀ k a, k < at' → (from' :: seen)[k]? = some a → ∀ n, DC p seen a n) ∧ (from' :: seen)[at']? = some cur ∧ p[(prI p cur).toNat]? = some x ∧ DC p seen cur j
open Classical in
theorem called_ok (p : List Prc) (from' to : List UInt8) (hfr : 0 ≤ prI p from') (hto : 0 ≤ prI p to) (hp : p.length ≤ 50) (hst : ∀ x ∈ p, x.2.length ≤ 200) (hres : ∀ x ∈ p, ∀ s ∈ x.2, s.1 = 6 → 0 ≤ prI p s.2.1) :
    OkF Try.prog 63 [.ro p.length (fl procCd p), .str from', .str to] (.bool (decide (Tc (cl p) (prI p from') (prI p to))), []) := by
  have hlen : ∀ seen, DG p from' to seen → seen.length ≤ p.length := fun seen hG => by
    have := length_le seen (p.map (·.1)) hG.1 fun s hs => by
      obtain ⟨x, h1, h2⟩ := prI_get (hG.2 s hs).1
      rw [List.mem_map]
      exact ⟨x, List.mem_of_getElem? h1, h2⟩
    simpa using this
  refine OkF.W0 hm h63 (of_decide_eq_true rfl) ?_
  unfold c63
  simp -dsimp [fillA]
  refine loop_dec (DI p from' to) (p.length + 1) ?_ (fun m t hI => ?_)
  · refine ⟨0, [], by simp -dsimp, by simp -dsimp, by simp -dsimp, ⟨?_, ?_, by simp -dsimp [ownOf]⟩, ⟨by simp, by simp⟩, by intro k a h; omega, by simp⟩
    · simp -dsimp
      exact Acc.mk (d := Cd.str) (l := []) (by simp) (by simp [fl])
    · simp -dsimp
      exact Acc.mk (d := Cd.str) (l := [from']) (by simp) (by simp [fl])
  · obtain ⟨at', seen, i0, i2, i9, ⟨h7, h8, hd⟩, hG, hC, hm'⟩ := hI
    have hsl := hlen _ hG
    unfold l63_1
    simp -dsimp [i0, i2, i9, h8.len]
    refine condK_of ?_ ?_ <;> intro q <;> simp -dsimp [q]
    · have hlt : at' < (from' :: seen).length := by simp at q ⊢; omega
      have hm1 : 0 < m ∧ at' ≤ 50 := by simp at hlt; omega
      have hg : (from' :: seen)[at']? = some (from' :: seen)[at'] := List.getElem?_eq_getElem hlt
      have hcm := List.getElem_mem hlt
      generalize (from' :: seen)[at'] = cur at hg hcm
      have hcur : 0 ≤ prI p cur ∧ (cur = from' ∨ Tc (cl p) (prI p from') (prI p cur)) := by
        rw [List.mem_cons] at hcm
        rcases hcm with h | h
        · subst h; exact ⟨hfr, .inl rfl⟩
        · exact ⟨(hG.2 _ h).1, .inr (hG.2 _ h).2.2⟩
      obtain ⟨x, hx, hxn⟩ := prI_get hcur.1
      obtain ⟨id, ver, off, a1, a2, a3, a4, a5, a6⟩ := h8.at hg (by decide)
      have a3' := fun K => a3 .i64 K
      have a6' : ldA t.h (.pt id ver off) none = some (.str cur) := a6
      simp only [str_sz] at a3'
      have hpc : ((prI p cur).toNat : Int) = prI p cur := by omega
      have hia : ∀ h K, iaddrK h (.ro p.length (fl procCd p)) (.int .i64 (prI p cur)) 2 K ⟨⟩ = K (.rp (fl procCd p) ((prI p cur).toNat * 2)) [] := fun h K => by
        have := proc_ia (h := h) (kk := .i64) (K := K) hx
        rw [hpc] at this
        exact this
      simp -dsimp [i0, i2, i9, a3', a6']
      refine call_int (procOf_ok p cur (by omega)) ?_
      have hnx : ∀ j, j < t.nx → j ≠ t.nx := fun j hj => by omega
      simp -dsimp [i0, hia, proc_ld hx]
      generalize hh1 : upd (upd t.h t.nx _) t.nx _ = h1
      have hf1 : ∀ j, j < t.nx → h1 j = t.h j := fun j hj => by rw [← hh1]; simp [hnx j hj]
      have hx1 : h1 t.nx = some ⟨0, 0, [.str x.1, .ro x.2.length (fl stepCd x.2)], none⟩ := by rw [← hh1]; simp
      have hmem := List.mem_of_getElem? hx
      have hxs := hst x hmem
      refine loop_to 11 x.2.length (fun j s => DJ p x from' to at' j t.nx s) (fun k t h => h.choose_spec.choose_spec.1) ?_ (fun j s hj hJ => ?_)
      · refine ⟨seen, cur, by simp -dsimp, by simp -dsimp [i0], by simp -dsimp [i2], by simp -dsimp [i9], by simp -dsimp, by simp -dsimp, by simp -dsimp [hx1], ?_, ?_, ⟨?_, ?_, ?_⟩, hG, hC, hg, hx, fun x' j s hx' hj => by omega⟩
        · simp -dsimp
          exact fun k hk => by have := h7.own hk; omega
        · simp -dsimp
          exact fun k hk => by have := h8.own hk; omega
        · simp -dsimp
          exact h7.mono (Nat.le_succ _) hf1
        · simp -dsimp
          exact h8.mono (Nat.le_succ _) hf1
        · simpa -dsimp using hd
      · obtain ⟨seen, cur', j11, j0, j2, j9, j10, jc, jh, jn7, jn8, ⟨g7, g8, gd⟩, jG, jC, jg, jx, jD⟩ := hJ
        have hsl := hlen _ jG
        unfold l63_0
        by_cases hlt : j < x.2.length
        · have hlt' : (j : Int) < (x.2.length : Int) := by omega
          have hw : IntKind.i64.wrap ((j : Int) + 1) = (j : Int) + 1 := IntWalk.i64_in _ (by omega)
          have hgj : x.2[j]? = some x.2[j] := List.getElem?_eq_getElem hlt
          have hmj : x.2[j] ∈ x.2 := List.getElem_mem hlt
          generalize x.2[j] = y at hgj hmj
          have hnx2 : ∀ j, j < s.nx → j ≠ s.nx := fun j hj => by omega
          have hcn : t.nx ≠ s.nx := by omega
          have hcur' : cur' = from' ∨ Tc (cl p) (prI p from') (prI p cur') := by
            have := List.mem_of_getElem? jg
            rw [List.mem_cons] at this
            rcases this with h | h
            · exact .inl h
            · exact .inr (jG.2 _ h).2.2
          simp -dsimp [j11, j0, j2, j9, j10, jh, hlt', step_ia hgj, step_ld hgj, stepV]
          generalize hh2 : upd (upd s.h s.nx _) s.nx _ = h2
          have hf2 : ∀ j, j < s.nx → h2 j = s.h j := fun j hj => by rw [← hh2]; simp [hnx2 j hj]
          have hx2 : h2 s.nx = some ⟨0, 0, [.int .i64 y.1, .str y.2.1, .str y.2.2.1, .int .i64 y.2.2.2.1, .bool y.2.2.2.2], none⟩ := by rw [← hh2]; simp
          have hc2 : h2 t.nx = some ⟨0, 0, [.str x.1, .ro x.2.length (fl stepCd x.2)], none⟩ := by rw [hf2 _ jc]; exact jh
          have g72 := g7.mono (Nat.le_succ s.nx) hf2
          have g82 := g8.mono (Nat.le_succ s.nx) hf2
          have step : (y.1 = 6 → y.2.1 ∈ seen) → DC p seen cur' (j + 1) := fun h x' j' s' hx' hj' hs' h6 => by
            by_cases e : j' = j
            · subst e
              rw [jx] at hx'
              injection hx' with hx'
              subst hx'
              rw [hgj] at hs'
              injection hs' with hs'
              subst hs'
              exact h h6
            · exact jD x' j' s' hx' (by omega) hs' h6
          refine wantF_of ?_ ?_ <;> intro q1 <;> simp -dsimp [q1, j11, j0, j2, j9, j10, hx2, hw, hlt]
          · have hy6 : y.1 = 6 := by simpa using q1
            have hpr0 := hres x hmem y hmj hy6
            have hcl : cl p (prI p cur') (prI p y.2.1) := ⟨x, y, jx, hmj, hy6, rfl⟩
            have hTc : Tc (cl p) (prI p from') (prI p y.2.1) := by
              rcases hcur' with h | h
              · subst h; exact .one hcl
              · exact .more h hcl
            simp -dsimp [g72.ro]
            refine call_bool (hasText_ok seen _ (by omega)) ?_
            simp -dsimp
            refine condK_of ?_ ?_ <;> intro q2 <;> simp -dsimp [j11, j0, j2, j9, j10, hx2, hw, hlt]
            · exact ⟨seen, cur', by simp -dsimp, by simp -dsimp [j0], by simp -dsimp [j2], by simp -dsimp [j9], by simp -dsimp [j10], by simp -dsimp; omega, by simp -dsimp [hc2], by simpa -dsimp using jn7, by simpa -dsimp using jn8, ⟨by simpa -dsimp using g72, by simpa -dsimp using g82, by simpa -dsimp using gd⟩, jG, jC, jg, jx, step fun _ => by simpa using q2⟩
            refine condK_of ?_ ?_ <;> intro q3 <;> simp -dsimp [j11, j0, j2, j9, j10, hx2, hw, hlt]
            · have : y.2.1 = to := by simpa using q3
              rw [← this]
              exact hTc
            have hyt : y.2.1 ≠ to := by simpa using q3
            have hnew : y.2.1 ∉ seen := by simpa using q2
            have hG' : DG p from' to (seen ++ [y.2.1]) := ⟨by
              rw [List.nodup_append]
              refine ⟨jG.1, by simp, fun a ha b hb => ?_⟩
              simp at hb
              subst hb
              exact fun e => hnew (e ▸ ha), fun s hs => by
              rw [List.mem_append] at hs
              rcases hs with hs | hs
              · exact jG.2 s hs
              · simp at hs; subst hs; exact ⟨hpr0, hyt, hTc⟩⟩
            have hl' := hlen _ hG'
            simp at hl'
            simp -dsimp [fillA, hx2]
            generalize hh3 : upd h2 (s.nx + 1) _ = h3
            have hf3 : ∀ j, j < s.nx + 1 → h3 j = h2 j := fun j hj => (by rw [← hh3]; have e : j ≠ s.nx + 1 := (by omega); simp [e])
            refine app_acc (d := Cd.str) (l' := [y.2.1]) (g72.mono (Nat.le_succ _) hf3) rfl rfl (by simp; omega) (by simp; omega) fun v1 h4 nx4 c1 c2 c3 c4 => ?_
            have own7 : ownOf (s.t 7) ≠ some s.nx := fun e => by have := g7.own e; omega
            have hx4 : h4 s.nx = some ⟨0, 0, [.int .i64 y.1, .str y.2.1, .str y.2.2.1, .int .i64 y.2.2.2.1, .bool y.2.2.2.2], none⟩ := by rw [c3 _ (by omega) own7, hf3 _ (by omega)]; exact hx2
            simp -dsimp [fillA, j11, j0, j2, j9, j10, hx4]
            generalize hh5 : upd h4 nx4 _ = h5
            have hf5 : ∀ j, j < nx4 → h5 j = h4 j := fun j hj => (by rw [← hh5]; have e : j ≠ nx4 := (by omega); simp [e])
            have g84 : Acc Cd.str h4 nx4 (s.t 8) (from' :: seen) := (g82.mono (Nat.le_succ _) hf3).keep c2 fun j hj1 hj2 => c3 j hj1 fun e => gd j e hj2
            refine app_acc (d := Cd.str) (l' := [y.2.1]) (g84.mono (Nat.le_succ _) hf5) rfl rfl (by simp; omega) (by simp; omega) fun v2 h6 nx6 e1 e2 e3 e4 => ?_
            simp -dsimp [j11, j0, j2, j9, j10, hw, hlt]
            have hdis : ∀ j, ownOf v1 = some j → ownOf v2 = some j → False := fun j hj1 hj2 => by
              rcases e4 j hj2 with h | h
              · rcases c4 j hj1 with h' | h'
                · exact gd j h' h
                · have := g82.own h
                  omega
              · have := c1.own hj1
                omega
            have hc6 : h6 t.nx = some ⟨0, 0, [.str x.1, .ro x.2.length (fl stepCd x.2)], none⟩ := by
              rw [e3 _ (by omega) (fun e => jn8 _ e rfl), hf5 _ (by omega), c3 _ (by omega) (fun e => jn7 _ e rfl), hf3 _ (by omega)]
              exact hc2
            refine ⟨seen ++ [y.2.1], cur', by simp -dsimp, by simp -dsimp [j0], by simp -dsimp [j2], by simp -dsimp [j9], by simp -dsimp [j10], by simp -dsimp; omega, by simp -dsimp [hc6], ?_, ?_, ⟨?_, ?_, ?_⟩, hG', ?_, ?_, jx, ?_⟩
            · simp -dsimp
              intro k hk
              rcases c4 k hk with h | h
              · exact jn7 k h
              · omega
            · simp -dsimp
              intro k hk
              rcases e4 k hk with h | h
              · exact jn8 k h
              · omega
            · simp -dsimp
              exact (c1.mono (Nat.le_succ _) hf5).keep e2 (fun j hj1 hj2 => e3 j hj1 fun e => (c4 j hj2).elim (fun h => gd j h e) (fun h => by have := g82.own e; omega))
            · simpa -dsimp using e1
            · simp -dsimp
              exact fun j hj1 hj2 => hdis j hj1 hj2
            · intro k a hk ha n x' j' s' h1 h2 h3 h4
              have hka : (from' :: seen)[k]? = some a := by
                have hkl := (List.getElem?_eq_some_iff.1 jg).1
                rw [← List.cons_append, List.getElem?_append_left (by omega)] at ha
                exact ha
              exact List.mem_append_left _ (jC k a hk hka n x' j' s' h1 h2 h3 h4)
            · have hkl := (List.getElem?_eq_some_iff.1 jg).1
              rw [← List.cons_append, List.getElem?_append_left (by omega)]
              exact jg
            · intro x' j' s' hx' hj' hs' h6
              by_cases e : j' = j
              · subst e
                rw [jx] at hx'
                injection hx' with hx'
                subst hx'
                rw [hgj] at hs'
                injection hs' with hs'
                subst hs'
                simp
              · exact List.mem_append_left _ (jD x' j' s' hx' (by omega) hs' h6)
          · exact ⟨seen, cur', by simp -dsimp, by simp -dsimp [j0], by simp -dsimp [j2], by simp -dsimp [j9], by simp -dsimp [j10], by simp -dsimp; omega, by simp -dsimp [hc2], by simpa -dsimp using jn7, by simpa -dsimp using jn8, ⟨by simpa -dsimp using g72, by simpa -dsimp using g82, by simpa -dsimp using gd⟩, jG, jC, jg, jx, step fun h => by simp [h] at q1⟩
        · have hjl : j = x.2.length := by omega
          subst hjl
          have hw : IntKind.i64.wrap ((at' : Int) + 1) = (at' : Int) + 1 := IntWalk.i64_in _ (by omega)
          simp -dsimp [j11, j0, j2, j9, j10, jh, hw]
          refine ⟨m - 1, by omega, at' + 1, seen, by simp -dsimp [j0], by simp -dsimp [j2], by simp -dsimp, ⟨by simpa -dsimp using g7, by simpa -dsimp using g8, by simpa -dsimp using gd⟩, jG, ?_, by omega⟩
          intro k a hk ha n
          by_cases e : k = at'
          · subst e
            rw [jg] at ha
            injection ha with ha
            subst ha
            intro x' j' s' h1 h2 h3 h4
            rw [jx] at h1
            injection h1 with h1
            subst h1
            exact jD _ j' s' jx (List.getElem?_eq_some_iff.1 h3).1 h3 h4
          · exact jC k a (by omega) ha n
    · have hall : ∀ k, Tc (cl p) (prI p from') k → ∃ s ∈ seen, prI p s = k := by
        have one : ∀ a ∈ from' :: seen, ∀ k, cl p (prI p a) k → ∃ s ∈ seen, prI p s = k := by
          intro a ha k hk
          obtain ⟨i, hi⟩ := List.getElem?_of_mem ha
          obtain ⟨x, s, h1, h2, h3, h4⟩ := hk
          obtain ⟨j, hj⟩ := List.getElem?_of_mem h2
          have hil := (List.getElem?_eq_some_iff.1 hi).1
          exact ⟨s.2.1, hC i a (by simp at q hil; omega) hi (j + 1) x j s h1 (by omega) hj h3, h4⟩
        intro k hk
        induction hk with
        | one h => exact one _ (by simp) _ h
        | more h1 h2 ih =>
          obtain ⟨s, hs, rfl⟩ := ih
          exact one s (by simp [hs]) _ h2
      intro hT
      obtain ⟨s, hs, e⟩ := hall _ hT
      exact (hG.2 s hs).2.1 (prI_inj (hG.2 s hs).1 e)
end Go.Proofs.P6
