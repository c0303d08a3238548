/- What procedures call, over others. -/
import Derived.Test.YtaegjihmpgdfcaaP6q
set_option linter.unusedVariables false
set_option linter.unusedSimpArgs false
set_option maxRecDepth 10000
set_option maxHeartbeats 8000000
namespace Go.Proofs.P6
open Go.Ex
/-- Reached in one step or more. -/
inductive Tc {α : Type} (R : α → α → Prop) (a : α) : α → Prop where
  | one {b} : R a b → Tc R a b
  | more {b c} : Tc R a b → R b c → Tc R a c
theorem length_le {α : Type} [BEq α] [LawfulBEq α] : ∀ (l r : List α), l.Nodup → (∀ x ∈ l, x ∈ r) → l.length ≤ r.length
  | [], r, _, _ => by simp
  | x :: l, r, hn, hs => by
    rw [List.nodup_cons] at hn
    have hx := hs x (by simp)
    have := length_le l (r.erase x) hn.2 fun y hy => (List.mem_erase_of_ne (fun e => hn.1 (by rw [← e]; exact hy))).2 (hs y (by simp [hy]))
    rw [List.length_erase_of_mem hx] at this
    have := List.length_pos_of_mem hx
    simp
    omega
theorem nodup_le {l : List Int} {n : Nat} (hn : l.Nodup) (h : ∀ k ∈ l, 0 ≤ k ∧ k < n) : l.length ≤ n := by
  have := length_le l ((List.range n).map fun (i : Nat) => (i : Int)) hn fun x hx => by
    obtain ⟨h1, h2⟩ := h x hx
    rw [List.mem_map]
    exact ⟨x.toNat, by rw [List.mem_range]; omega, by omega⟩
  simpa using this
theorem prI_lt (p : List Prc) (s : List UInt8) : prI p s < p.length := by
  unfold prI
  rcases ixI_cases (fun x : Prc => decide (x.1 = s)) p with ⟨h1, _⟩ | ⟨k, a, h1, h2, _⟩
  · rw [h1]; omega
  · rw [h1]
    have := (List.getElem?_eq_some_iff.1 h2).1
    omega
/-- The procedure a has a step that calls b. -/
def cl (p : List Prc) (a b : Int) : Prop := ∃ x s, p[a.toNat]? = some x ∧ s ∈ x.2 ∧ s.1 = 6 ∧ prI p s.2.1 = b
def CG (p : List Prc) (i : Nat) (out todo : List Int) (proc : Int → Prop) : Prop := (out.Nodup ∧ todo.length ≤ out.length + 1) ∧ (∀ k ∈ out, 0 ≤ k ∧ k < p.length ∧ Tc (cl p) i k) ∧ (∀ k ∈ todo, k = i ∨ k ∈ out) ∧ (∀ a, (a = (i : Int) ∨ a ∈ out) → a ∈ todo ∨ proc a)
/-- Two rows that grow, apart. -/
def TwoAcc (t : St) (a b : Nat) (out todo : List Int) : Prop := Acc (Cd.int .i64) t.h t.nx (t.t a) out ∧ Acc (Cd.int .i64) t.h t.nx (t.t b) todo ∧ (∀ j, ownOf (t.t a) = some j → ownOf (t.t b) ≠ some j)
def CI (p : List Prc) (i m : Nat) (t : St) : Prop := ∃ out todo, t.t 0 = .ro p.length (fl procCd p) ∧ TwoAcc t 5 6 out todo ∧ CG p i out todo (fun a => ∀ b, cl p a b → b ∈ out) ∧ m + 2 * out.length = 2 * p.length + todo.length
def CJ (p : List Prc) (x : Prc) (i cn m j : Nat) (s : St) : Prop := ∃ out' todo', s.t 0 = .ro p.length (fl procCd p) ∧ s.t 25 = .ro x.2.length (fl stepCd x.2) ∧ TwoAcc s 5 6 out' todo' ∧
          CG p i out' todo' (fun a => a = cn ∨ ∀ b, cl p a b → b ∈ out') ∧ (cn = i ∨ (cn : Int) ∈ out') ∧ (∀ j' s, j' < j → x.2[j']? = some s → s.1 = 6 → prI p s.2.1 ∈ out') ∧ todo'.length + 2 * p.length + 1 ≤ m + 2 * out'.length
theorem calls_ok (p : List Prc) (i : Nat) (hi : i < p.length) (hp : p.length ≤ 50) (hst : ∀ x ∈ p, x.2.length ≤ 200) (hres : ∀ x ∈ p, ∀ s ∈ x.2, s.1 = 6 → 0 ≤ prI p s.2.1) :
    ∃ out : List Int, (out.length ≤ 50 ∧ ∀ k, k ∈ out ↔ Tc (cl p) i k) ∧ OkF Try.prog 59 [.ro p.length (fl procCd p), .int .i64 i] (.ro out.length (fl (Cd.int .i64) out), []) := by
  have key : ∃ v, (∃ out : List Int, (out.length ≤ 50 ∧ ∀ k, k ∈ out ↔ Tc (cl p) i k) ∧ v = .ro out.length (fl (Cd.int .i64) out)) ∧ OkF Try.prog 59 [.ro p.length (fl procCd p), .int .i64 i] (v, []) := by
    refine OkF.ex0 hm h59 (of_decide_eq_true rfl) ?_
    unfold c59
    simp -dsimp [fillA]
    have hout : ∀ out todo proc, CG p i out todo proc → out.length ≤ p.length := fun out todo proc hG => nodup_le hG.1.1 fun k hk => ⟨(hG.2.1 k hk).1, (hG.2.1 k hk).2.1⟩
    refine loop_dec (CI p i) (2 * p.length + 1) ?_ (fun m t hI => ?_)
    · refine ⟨[], [(i : Int)], by simp -dsimp, ⟨by simp -dsimp; exact .nil _ _, ?_, ?_⟩, ⟨⟨by simp, by simp⟩, by simp, by simp, by simp⟩, by simp⟩
      · simp -dsimp
        exact Acc.mk (d := Cd.int .i64) (l := [(i : Int)]) (by simp) (by simp [fl])
      · simp -dsimp [ownOf]
    · obtain ⟨out, todo, i0, ⟨ho, ht, hd⟩, hG, hm'⟩ := hI
      have holen := hout _ _ _ hG
      unfold l59_1
      simp -dsimp [i0, ht.len]
      refine condK_of ?_ ?_ <;> intro q <;> simp -dsimp [q]
      · -- a round
        obtain ⟨cur, rest, rfl⟩ : ∃ c r, todo = c :: r := by
          cases todo with
          | nil => simp at q
          | cons c r => exact ⟨c, r, rfl⟩
        have hcur := hG.2.2.1 cur (by simp)
        have hcr : 0 ≤ cur ∧ cur < p.length := by
          rcases hcur with h | h
          · omega
          · exact ⟨(hG.2.1 cur h).1, (hG.2.1 cur h).2.1⟩
        obtain ⟨cn, rfl⟩ : ∃ n : Nat, cur = n := ⟨cur.toNat, by omega⟩
        have hcn : cn < p.length := by omega
        have hg : p[cn]? = some p[cn] := List.getElem?_eq_getElem hcn
        have hmem : p[cn] ∈ p := List.getElem_mem hcn
        generalize p[cn] = x at hg hmem
        obtain ⟨id, ver, off, a1, a2, a3, a4, a5, a6⟩ := ht.at (k := 0) (x := (cn : Int)) rfl (by decide)
        have a3' := fun K => a3 .i64 K
        simp only [Int.natCast_zero] at a3'
        have a6' : ldA t.h (.pt id ver off) none = some (.int .i64 cn) := a6
        have hsz : (Cd.int .i64).sz = 1 := rfl
        rw [hsz] at a3'
        have hne : ∀ j, j < t.nx → j ≠ t.nx := fun j hj => by omega
        simp -dsimp [i0, a3', a6', proc_ia hg, proc_ld hg]
        generalize hh1 : upd (upd t.h t.nx _) t.nx _ = h1
        have hf1 : ∀ j, j < t.nx → h1 j = t.h j := fun j hj => by rw [← hh1]; simp [hne j hj]
        have ht1 := ht.mono (Nat.le_succ t.nx) hf1
        have ho1 := ho.mono (Nat.le_succ t.nx) hf1
        have hx1 : h1 t.nx = some ⟨0, 0, [.str x.1, .ro x.2.length (fl stepCd x.2)], none⟩ := by rw [← hh1]; simp
        obtain ⟨v', id', b1, b2, b3, b4⟩ := ht1.tail (n := 1) (by simp) (by simp)
        have b4' := fun nx' K => b4 .i64 nx' K
        rw [hsz] at b4'
        simp only [Int.natCast_one] at b4'
        simp only [List.drop_succ_cons, List.drop_zero] at b3
        simp -dsimp [b4', hx1]
        have hxs := hst x hmem
        refine for_lt x.2.length (CJ p x i cn m) rfl (by omega) ?_ (by simp -dsimp) (by simp -dsimp) (fun j s hj hJ hji hjn => ?_) (fun s hJ hji hjn => ?_)
        · refine ⟨out, rest, by simp -dsimp [i0], by simp -dsimp, ⟨by simp -dsimp; exact ho1, by simp -dsimp; exact b3, by simp -dsimp; intro j hj; rw [b2]; rw [b1] at hd; exact hd j hj⟩, ?_, hcur.imp (fun h => by omega) (fun h => h), by simp, by simp at hm'; omega⟩
          refine ⟨⟨hG.1.1, by have := hG.1.2; simp at this; omega⟩, hG.2.1, fun k hk => hG.2.2.1 k (by simp [hk]), fun a ha => ?_⟩
          rcases hG.2.2.2 a ha with h | h
          · simp at h
            rcases h with h | h
            · exact .inr (.inl h)
            · exact .inl h
          · exact .inr (.inr h)
        · obtain ⟨out', todo', j0, j25, ⟨jo, jt, jd⟩, jG, jc, jp, jm⟩ := hJ
          have jol := hout _ _ _ jG
          have jtl := jG.1.2
          have hgj : x.2[j]? = some x.2[j] := List.getElem?_eq_getElem hj
          have hmj : x.2[j] ∈ x.2 := List.getElem_mem hj
          generalize x.2[j] = y at hgj hmj
          have hnx : ∀ j, j < s.nx → j ≠ s.nx := fun j hj => by omega
          unfold k59_0
          simp -dsimp [j0, j25, hji, hjn, step_ia hgj, step_ld hgj, stepV]
          generalize hh2 : upd (upd s.h s.nx _) s.nx _ = h2
          have hf2 : ∀ j, j < s.nx → h2 j = s.h j := fun j hj => by rw [← hh2]; simp [hnx j hj]
          have hx2 : h2 s.nx = some ⟨0, 0, [.int .i64 y.1, .str y.2.1, .str y.2.2.1, .int .i64 y.2.2.2.1, .bool y.2.2.2.2], none⟩ := by rw [← hh2]; simp
          have jo2 := jo.mono (Nat.le_succ s.nx) hf2
          have jt2 := jt.mono (Nat.le_succ s.nx) hf2
          refine condK_of ?_ ?_ <;> intro q1 <;> simp -dsimp [j0, j25, hji, hjn, hx2]
          · refine ⟨out', todo', by simp -dsimp [j0], by simp -dsimp [j25], ⟨by simpa -dsimp using jo2, by simpa -dsimp using jt2, by simpa -dsimp using jd⟩, jG, jc, fun j' s' hj' hs' h6 => ?_, jm⟩
            by_cases e : j' = j
            · subst e
              rw [hgj] at hs'
              injection hs' with hs'
              subst hs'
              simp [h6] at q1
            · exact jp j' s' (by omega) hs' h6
          have hy6 : y.1 = 6 := by simpa using q1
          have hpr0 := hres x hmem y hmj hy6
          have hprl := prI_lt p y.2.1
          have hcl : cl p cn (prI p y.2.1) := ⟨x, y, by simpa using hg, hmj, hy6, rfl⟩
          have hTc : Tc (cl p) i (prI p y.2.1) := by
            rcases jc with h | h
            · subst h; exact .one hcl
            · exact .more (jG.2.1 _ h).2.2 hcl
          refine call_int (procAt_ok p _ (by omega)) ?_
          simp -dsimp [jo2.ro]
          refine call_bool (contains_int hm h43 h97 out' (by omega) _) ?_
          simp -dsimp
          refine condK_of ?_ ?_ <;> intro q2 <;> simp -dsimp [j0, j25, hji, hjn]
          · -- a new one
            have hnew : prI p y.2.1 ∉ out' := by simpa using q2
            have hG' : ∀ (todo'' : List Int), todo'' = todo' ++ [prI p y.2.1] → CG p i (out' ++ [prI p y.2.1]) todo'' (fun a => a = cn ∨ ∀ b, cl p a b → b ∈ out' ++ [prI p y.2.1]) := by
              intro todo'' h
              subst h
              refine ⟨?_, ?_, ?_, ?_⟩
              · refine ⟨?_, by have := jG.1.2; simp; omega⟩
                rw [List.nodup_append]
                refine ⟨jG.1.1, by simp, fun a ha b hb => ?_⟩
                simp at hb
                subst hb
                exact fun e => hnew (e ▸ ha)
              · intro k hk
                rw [List.mem_append] at hk
                rcases hk with hk | hk
                · exact jG.2.1 k hk
                · simp at hk; subst hk; exact ⟨hpr0, hprl, hTc⟩
              · intro k hk
                rw [List.mem_append] at hk
                rcases hk with hk | hk
                · rcases jG.2.2.1 k hk with h | h
                  · exact .inl h
                  · exact .inr (List.mem_append_left _ h)
                · exact .inr (List.mem_append_right _ hk)
              · intro a ha
                by_cases e : a = prI p y.2.1
                · exact .inl (List.mem_append_right _ (by simp [e]))
                · have ha' : a = (i : Int) ∨ a ∈ out' := by
                    rcases ha with h | h
                    · exact .inl h
                    · rw [List.mem_append] at h
                      rcases h with h | h
                      · exact .inr h
                      · simp at h; exact absurd h e
                  rcases jG.2.2.2 a ha' with h | h | h
                  · exact .inl (List.mem_append_left _ h)
                  · exact .inr (.inl h)
                  · exact .inr (.inr fun b hb => List.mem_append_left _ (h b hb))
            have hlen : (out' ++ [prI p y.2.1]).length ≤ p.length := hout _ _ _ (hG' _ rfl)
            simp at hlen
            simp -dsimp [fillA]
            generalize hh3 : upd h2 (s.nx + 1) _ = h3
            have hf3 : ∀ j, j < s.nx + 1 → h3 j = h2 j := fun j hj => (by rw [← hh3]; have e : j ≠ s.nx + 1 := (by omega); simp [e])
            have hx3 : h3 (s.nx + 1) = some ⟨0, 1, [.int .i64 (prI p y.2.1)], none⟩ := by rw [← hh3]; simp
            refine app_acc (d := Cd.int .i64) (l' := [prI p y.2.1]) (jo2.mono (Nat.le_succ _) hf3) rfl rfl (by simp; omega) (by simp; omega) fun v1 h4 nx4 c1 c2 c3 c4 => ?_
            simp -dsimp [fillA, j0, j25, hji, hjn]
            generalize hh5 : upd h4 nx4 _ = h5
            have hf5 : ∀ j, j < nx4 → h5 j = h4 j := fun j hj => (by rw [← hh5]; have e : j ≠ nx4 := (by omega); simp [e])
            have hx5 : h5 nx4 = some ⟨0, 1, [.int .i64 (prI p y.2.1)], none⟩ := by rw [← hh5]; simp
            have jt4 : Acc (Cd.int .i64) h4 nx4 (s.t 6) todo' := (jt2.mono (Nat.le_succ _) hf3).keep c2 fun j hj1 hj2 => c3 j hj1 fun e => jd j e hj2
            refine app_acc (d := Cd.int .i64) (l' := [prI p y.2.1]) (jt4.mono (Nat.le_succ _) hf5) rfl rfl (by simp; omega) (by simp; omega) fun v2 h6 nx6 e1 e2 e3 e4 => ?_
            simp -dsimp [j0, j25, hji, hjn]
            have hdis : ∀ j, ownOf v1 = some j → ownOf v2 = some j → False := fun j hj1 hj2 => by
              rcases e4 j hj2 with h | h
              · rcases c4 j hj1 with h' | h'
                · exact jd j h' h
                · have := jt2.own h
                  omega
              · have := c1.own hj1
                omega
            refine ⟨out' ++ [prI p y.2.1], todo' ++ [prI p y.2.1], by simp -dsimp [j0], by simp -dsimp [j25], ⟨by simp -dsimp; exact (c1.mono (Nat.le_succ _) hf5).keep e2 (fun j hj1 hj2 => e3 j hj1 fun e => (c4 j hj2).elim (fun h => jd j h e) (fun h => by have := jt2.own e; omega)), by simpa -dsimp using e1, by simp -dsimp; exact fun j hj1 hj2 => hdis j hj1 hj2⟩, hG' _ rfl, ?_, fun j' s' hj' hs' h6 => ?_, by simp; omega⟩
            · rcases jc with h | h
              · exact .inl h
              · exact .inr (List.mem_append_left _ h)
            · by_cases e : j' = j
              · subst e
                rw [hgj] at hs'
                injection hs' with hs'
                subst hs'
                simp
              · exact List.mem_append_left _ (jp j' s' (by omega) hs' h6)
          · refine ⟨out', todo', by simp -dsimp [j0], by simp -dsimp [j25], ⟨by simpa -dsimp using jo2, by simpa -dsimp using jt2, by simpa -dsimp using jd⟩, jG, jc, fun j' s' hj' hs' h6 => ?_, jm⟩
            by_cases e : j' = j
            · subst e
              rw [hgj] at hs'
              injection hs' with hs'
              subst hs'
              simpa using q2
            · exact jp j' s' (by omega) hs' h6
        · obtain ⟨out', todo', j0, j25, ⟨jo, jt, jd⟩, jG, jc, jp, jm⟩ := hJ
          simp -dsimp [j0]
          refine ⟨todo'.length + 2 * p.length - 2 * out'.length, ?_, out', todo', by simp -dsimp [j0], ⟨by simpa -dsimp using jo, by simpa -dsimp using jt, by simpa -dsimp using jd⟩, ⟨jG.1, jG.2.1, jG.2.2.1, fun a ha => ?_⟩, ?_⟩
          · have := hout _ _ _ jG
            omega
          · rcases jG.2.2.2 a ha with h | h | h
            · exact .inl h
            · refine .inr fun b hb => ?_
              subst h
              obtain ⟨x', s', hx', hs', h6, rfl⟩ := hb
              have : x' = x := by
                have := hx'.symm.trans (by simpa using hg)
                injection this
              subst this
              obtain ⟨j', hj'⟩ := List.getElem?_of_mem hs'
              exact jp j' s' (List.getElem?_eq_some_iff.1 hj').1 hj' h6
            · exact .inr h
          · have := hout _ _ _ jG
            omega
      · -- the end
        have : todo = [] := by
          cases todo with
          | nil => rfl
          | cons c r => simp at q
        subst this
        refine ⟨_, ho.ex, out, ⟨by omega, fun k => ⟨fun hk => (hG.2.1 k hk).2.2, fun hk => ?_⟩⟩, rfl⟩
        induction hk with
        | one h =>
          rcases hG.2.2.2 i (.inl rfl) with h' | h'
          · simp at h'
          · exact h' _ h
        | more h1 h2 ih =>
          rcases hG.2.2.2 _ (.inr ih) with h' | h'
          · simp at h'
          · exact h' _ h2
  obtain ⟨v, ⟨out, ho, rfl⟩, h⟩ := key
  exact ⟨out, ho, h⟩
end Go.Proofs.P6
