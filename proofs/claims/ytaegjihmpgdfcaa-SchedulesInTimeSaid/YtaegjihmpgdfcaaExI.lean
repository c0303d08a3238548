/- What a value reads as; a call that answers in pure values. -/
import Derived.Test.YtaegjihmpgdfcaaExH
set_option linter.unusedVariables false
set_option linter.unusedSimpArgs false
namespace Go.Ex
open Go.RowKit
section
variable {φ φ' : Nat → Nat × Nat} {h h' hM : Hp} {S S' : Nat → Prop} {w w0 : World} {P : Program}
theorem pure_rep {v : V} {x : Value} (r : Rep φ h S w v x) (hS : ∀ r, S r → S' r) : v.pure = true → Rep φ' h' S' w v x := by
  induction r with
  | int k n => exact fun _ => .int k n
  | bool b => exact fun _ => .bool b
  | str s => exact fun _ => .str s
  | agg cs vs h1 h2 h3 ih =>
    intro hp
    have hp' : V.pureL cs = true := by simpa [V.pure] using hp
    exact .agg cs vs h1 h2 fun i c v hc hv => ih i c v hc hv (pureL_iff.1 hp' c (List.mem_of_getElem? hc))
  | tup cs vs h1 h3 ih =>
    intro hp
    have hp' : V.pureL cs = true := by simpa [V.pure] using hp
    exact .tup cs vs h1 fun i c v hc hv => ih i c v hc hv (pureL_iff.1 hp' c (List.mem_of_getElem? hc))
  | roN => exact fun _ => .roN
  | ro n cs a c vs hn hp h1 h2 ih =>
    intro _
    exact .ro n cs a c vs hn hp (fun hc => let ⟨x, y, z⟩ := h1 hc; ⟨x, hS _ y, z⟩) fun i c v hc hv => ih i c v hc hv (pureL_iff.1 hp c (List.mem_of_getElem? hc))
  | rp cs off r o vs h0 h1 h2 h3 ih => intro hp; simp [V.pure] at hp
  | sl id ver off len cap a c h1 => intro hp; simp [V.pure] at hp
  | pt id ver off a h1 => intro hp; simp [V.pure] at hp
  | ns => intro hp; simp [V.pure] at hp
  | em0 => intro hp; simp [V.pure] at hp
  | em a => intro hp; simp [V.pure] at hp
  | ne a c => intro hp; simp [V.pure] at hp
  | mp id ver r h1 => intro hp; simp [V.pure] at hp
  | np => intro hp; simp [V.pure] at hp
  | fn f cs vs h1 h3 ih => intro hp; simp [V.pure] at hp
  | junk v => intro hp; simp [V.pure] at hp
theorem mapM_getElem {α β : Type} {f : α → Option β} {l : List α} {m : List β} (e : l.mapM f = some m) (i : Nat) (y : β) (hy : m[i]? = some y) : ∃ x, l[i]? = some x ∧ f x = some y := by
  obtain ⟨h1, h2⟩ := mapM_at e
  have hi := (List.getElem?_eq_some_iff.1 hy).1
  have : i < l.length := by omega
  exact ⟨l[i], List.getElem?_eq_getElem this, h2 i _ y (List.getElem?_eq_getElem this) hy⟩
/-- S' holds what is stable and the blocks that are read. -/
structure Wide (φ : Nat → Nat × Nat) (hM : Hp) (S S' : Nat → Prop) : Prop where
  s : ∀ r, S r → S' r
  b : ∀ id b, hM id = some b → S' (φ id).1
theorem cellRO_rep (hR : Rel P w0 φ S h w) (hM0 : ∀ id b, hM id = some b → h id = some b) (hw : Wide φ hM S S') :
    ∀ (n : Nat) (v : V) (x : Value) (u : V), Rep φ h S w v x → cellRO hM n v = some u → Rep φ' h' S' w u x ∧ u.pure = true
  | n, v, x, u, rx, e => by
    have keep : ∀ {v : V}, Rep φ h S w v x → v.pure = true → Rep φ' h' S' w v x := fun r hp => pure_rep r hw.s hp
    cases v <;> unfold cellRO at e <;> (try simp only at e) <;> first | (cases e; done) | skip
    · injection e with e; subst e; exact ⟨keep rx rfl, rfl⟩
    · injection e with e; subst e; exact ⟨keep rx rfl, rfl⟩
    · injection e with e; subst e; exact ⟨keep rx rfl, rfl⟩
    · injection e with e; subst e
      have hp : ∀ {n : Nat} {cs : List V} {x : Value}, Rep φ h S w (.ro n cs) x → V.pure (.ro n cs) = true := by
        intro n cs x r
        cases r with
        | roN => rfl
        | ro n cs a c vs h1 h2 => simpa [V.pure] using h2
      exact ⟨keep rx (hp rx), hp rx⟩
    · rename_i id ver off len cap
      cases n with
      | zero => cases e
      | succ n =>
        simp only at e
        split at e
        · rename_i b hb
          split at e
          · rename_i hq
            obtain ⟨e1, em, e2⟩ := hq
            have hbb := hM0 _ _ hb
            cases rx
            rename_i ad c hr
            obtain ⟨b1, q1, q2, q3⟩ := hr
            rw [hbb] at q1
            injection q1 with q1
            subst q1
            obtain ⟨oo, p1, p2, p3, p4, p5⟩ := q3 e1
            subst p1
            obtain ⟨arr, el, fz, z1, z2, z3, z4⟩ := (hR.blk _ _ hbb).at_ em
            have hlen : (List.take (len * b.esz) (List.drop off b.cells)).length = len * b.esz := by simp; omega
            have fin : ∀ cs : List V, cs.length = len * b.esz → V.pureL cs = true →
                (∀ (i : Nat) y c v, cs[i]? = some y → (List.take (len * b.esz) (List.drop off b.cells))[i]? = some c → Rep φ h S w c v → Rep φ' h' S' w y v) →
                Rep φ' h' S' w (.ro len cs) (.slice (some ⟨(φ id).1, oo, none⟩) len c) := by
              intro cs hcl hp hel
              refine .ro len cs _ c (arr.extract ((φ id).2 + off) ((φ id).2 + off + len * b.esz)) p4 hp (fun hne => ?_) (fun i y v hy hv => ?_)
              · have hpos : 0 < len := by
                  rcases Nat.eq_zero_or_pos len with q | q
                  · subst q; simp at hcl; exact absurd hcl hne
                  · exact q
                have hoo := p2 (by omega)
                subst hoo
                refine ⟨rfl, hw.b _ _ hb, arr, el, fz, z1, by rw [hcl]; simp only; omega, by rw [hcl], fun i v hi hv => ?_⟩
                have : off + i < b.cells.length := by omega
                exact (z4 _ _ v (List.getElem?_eq_getElem this) (by rw [← Nat.add_assoc]; exact hv)).2
              · have hi : i < (List.take (len * b.esz) (List.drop off b.cells)).length := by rw [hlen, ← hcl]; exact (List.getElem?_eq_some_iff.1 hy).1
                refine hel i y _ v hy (List.getElem?_eq_getElem hi) ?_
                rw [Array.getElem?_extract] at hv
                split at hv
                · refine (z4 (off + i) _ v ?_ (by rw [← Nat.add_assoc]; exact hv)).1
                  have := List.getElem?_eq_getElem hi
                  rw [List.getElem?_take, List.getElem?_drop] at this
                  split at this
                  · exact this
                  · cases this
                · cases hv
            split at e
            · rename_i hp
              injection e with e
              subst e
              refine ⟨fin _ hlen hp fun i y c v hy hc hr => ?_, by simpa [V.pure] using hp⟩
              rw [hy] at hc
              injection hc with hc
              subst hc
              exact pure_rep hr hw.s (pureL_iff.1 hp y (List.mem_of_getElem? hy))
            · rw [Option.map_eq_some_iff] at e
              obtain ⟨cs, hcs, rfl⟩ := e
              obtain ⟨g1, g2⟩ := mapM_at hcs
              have hpl : V.pureL cs = true := pureL_iff.2 fun y hy => by
                obtain ⟨i, hi⟩ := List.getElem?_of_mem hy
                have hil : i < (List.take (len * b.esz) (List.drop off b.cells)).length := by rw [g1]; exact (List.getElem?_eq_some_iff.1 hi).1
                have hc := List.getElem?_eq_getElem hil
                have hil2 : off + i < b.cells.length := by omega
                have hv : arr[(φ id).2 + (off + i)]? = some arr[(φ id).2 + (off + i)] := Array.getElem?_eq_getElem (by omega)
                have hc2 := hc
                rw [List.getElem?_take, List.getElem?_drop] at hc2
                split at hc2
                · exact (cellRO_rep hR hM0 hw n _ _ y (z4 _ _ _ hc2 hv).1 (g2 i _ y hc hi)).2
                · cases hc2
              exact ⟨fin cs (by rw [← g1]; exact hlen) hpl fun i y c v hy hc hr => (cellRO_rep hR hM0 hw n c v y hr (g2 i c y hc hy)).1, by simpa [V.pure] using hpl⟩
          · cases e
        · cases e
    · injection e with e; subst e
      cases rx
      exact ⟨.roN, rfl⟩
    · injection e with e; subst e
      cases rx
      · exact ⟨.roN, rfl⟩
      · exact ⟨.ro 0 [] _ 0 #[] (Nat.le_refl _) rfl (fun hc => absurd rfl hc) (fun i x v hx => by simp at hx), rfl⟩
    · injection e with e; subst e
      cases rx
      exact ⟨.ro 0 [] _ _ #[] (Nat.zero_le _) rfl (fun hc => absurd rfl hc) (fun i x v hx => by simp at hx), rfl⟩
theorem toRO_rep (hR : Rel P w0 φ S h w) (hM0 : ∀ id b, hM id = some b → h id = some b) (hw : Wide φ hM S S') {n : Nat} {v : V} {x : Value} {u : V} (rx : Rep φ h S w v x) (e : toRO hM n v = some u) :
    Rep φ' h' S' w u x ∧ u.pure = true := by
  unfold toRO at e
  split at e
  · split at e
    · rename_i cs hp
      injection e with e
      subst e
      exact ⟨pure_rep rx hw.s (by simpa [V.pure] using hp), by simpa [V.pure] using hp⟩
    · rename_i cs hp
      rw [Option.map_eq_some_iff] at e
      obtain ⟨us, hus, rfl⟩ := e
      obtain ⟨g1, g2⟩ := mapM_at hus
      cases rx with
      | agg cs vs h1 h2 h3 =>
        have key : ∀ (i : Nat) y v, us[i]? = some y → vs[i]? = some v → Rep φ' h' S' w y v ∧ y.pure = true := by
          intro i y v hy hv
          obtain ⟨c, hc, hcc⟩ := mapM_getElem hus i y hy
          exact cellRO_rep hR hM0 hw n c v y (h3 i c v hc hv) hcc
        refine ⟨.agg us vs (by omega) h2 fun i y v hy hv => (key i y v hy hv).1, ?_⟩
        have : V.pureL us = true := pureL_iff.2 fun y hy => by
          obtain ⟨i, hi⟩ := List.getElem?_of_mem hy
          have hi2 : i < vs.size := by
            have := (List.getElem?_eq_some_iff.1 hi).1
            omega
          exact (key i y _ hi (Array.getElem?_eq_getElem hi2)).2
        simpa [V.pure] using this
  · exact cellRO_rep hR hM0 hw n v x u rx e
theorem addB_get : ∀ (bs : List LB) (h : Hp) (nx id : Nat), addB h nx bs id = if nx ≤ id ∧ id < nx + bs.length then bs[id - nx]? else h id
  | [], h, nx, id => by
    rw [if_neg (by simp only [List.length_nil]; omega)]
    rfl
  | b :: r, h, nx, id => by
    unfold addB
    rw [addB_get r]
    simp only [List.length_cons]
    by_cases h1 : nx + 1 ≤ id ∧ id < nx + 1 + r.length
    · rw [if_pos h1, if_pos (by omega)]
      have : id - nx = (id - (nx + 1)) + 1 := by omega
      rw [this, List.getElem?_cons_succ]
    · rw [if_neg h1]
      by_cases h2 : id = nx
      · subst h2
        rw [if_pos (by omega), Nat.sub_self, upd_self]
        rfl
      · rw [if_neg (by omega)]
        simp [upd, h2]
theorem roFreeL_iff : ∀ {l : List V}, roFreeL l = true ↔ ∀ v ∈ l, roFree v = true
  | [] => by simp [roFreeL]
  | v :: l => by simp [roFreeL, roFreeL_iff (l := l)]
theorem shiftL_eq (n : Nat) : ∀ l : List V, shiftL n l = l.map (shift n)
  | [] => by simp [shiftL]
  | v :: l => by simp [shiftL, shiftL_eq n l]
theorem shift_rep {φc φ'' : Nat → Nat × Nat} {hc h'' : Hp} {Sc S'' : Nat → Prop} {nx : Nat} {v : V} {x : Value} (hsz : ∀ id b, hc id = some b → h'' (nx + id) = some b ∧ φ'' (nx + id) = φc id)
    (r : Rep φc hc Sc w v x) : ((∀ b, Sc b → S'' b) ∨ roFree v = true) → Rep φ'' h'' S'' w (shift nx v) x := by
  have ref : ∀ {id ver : Nat} {p q : LB → Prop}, RefOk hc id ver p → (∀ b, φ'' (nx + id) = φc id → p b → q b) → RefOk h'' (nx + id) ver q := by
    intro id ver p q ⟨b, h1, h2, h3⟩ hpq
    obtain ⟨g1, g2⟩ := hsz id b h1
    exact ⟨b, g1, h2, fun hv => hpq b g2 (h3 hv)⟩
  have sub : ∀ {cs : List V} {i : Nat} {c : V}, ((∀ b, Sc b → S'' b) ∨ roFreeL cs = true) → cs[i]? = some c → ((∀ b, Sc b → S'' b) ∨ roFree c = true) := by
    intro cs i c ho hc
    rcases ho with ho | ho
    · exact .inl ho
    · exact .inr (roFreeL_iff.1 ho c (List.mem_of_getElem? hc))
  induction r with
  | int k n => exact fun _ => by simp only [shift]; exact .int k n
  | bool b => exact fun _ => by simp only [shift]; exact .bool b
  | str s => exact fun _ => by simp only [shift]; exact .str s
  | agg cs vs h1 h2 h3 ih =>
    intro ho
    simp only [shift, shiftL_eq]
    refine .agg _ _ (by simpa using h1) h2 fun i c v hc hv => ?_
    rw [List.getElem?_map, Option.map_eq_some_iff] at hc
    obtain ⟨c0, hc0, rfl⟩ := hc
    exact ih i c0 v hc0 hv (sub (by simpa [roFree] using ho) hc0)
  | tup cs vs h1 h3 ih =>
    intro ho
    simp only [shift, shiftL_eq]
    refine .tup _ _ (by simpa using h1) fun i c v hc hv => ?_
    rw [List.getElem?_map, Option.map_eq_some_iff] at hc
    obtain ⟨c0, hc0, rfl⟩ := hc
    exact ih i c0 v hc0 hv (sub (by simpa [roFree] using ho) hc0)
  | roN => exact fun _ => by simp only [shift]; exact .roN
  | ro n cs a c vs hn hp h1 h2 ih =>
    intro ho
    simp only [shift]
    rcases ho with ho | ho
    · exact pure_rep (.ro n cs a c vs hn hp h1 h2) ho (by simpa [V.pure] using hp)
    · cases cs with
      | nil => exact .ro n [] a c #[] hn hp (fun hne => absurd rfl hne) (fun i x v hx => by simp at hx)
      | cons _ _ => simp [roFree] at ho
  | rp cs off r o vs hp h1 h2 h3 ih =>
    intro ho
    simp only [shift]
    rcases ho with ho | ho
    · exact .rp cs off r o vs hp (ho _ h1) h2 fun i x v hx hv => pure_rep (h3 i x v hx hv) ho (pureL_iff.1 hp x (List.mem_of_getElem? hx))
    · simp [roFree] at ho
  | sl id ver off len cap a c h1 =>
    intro _
    simp only [shift]
    refine .sl _ _ _ _ _ _ _ (ref h1 fun b hφ ⟨o, p1, p2, p3, p4⟩ => ⟨o, by rw [hφ]; exact p1, by rw [hφ]; exact p2, by rw [hφ]; exact p3, p4⟩)
  | pt id ver off a h1 =>
    intro _
    simp only [shift]
    exact .pt _ _ _ _ (ref h1 fun b hφ p => by rw [hφ]; exact p)
  | ns => exact fun _ => by simp only [shift]; exact .ns
  | em0 => exact fun _ => by simp only [shift]; exact .em0
  | em a => exact fun _ => by simp only [shift]; exact .em a
  | ne a c => exact fun _ => by simp only [shift]; exact .ne a c
  | mp id ver r h1 =>
    intro _
    simp only [shift]
    exact .mp _ _ _ (ref h1 fun b hφ p => by rw [hφ]; exact p)
  | np => exact fun _ => by simp only [shift]; exact .np
  | fn f cs vs h1 h3 ih =>
    intro ho
    simp only [shift, shiftL_eq]
    refine .fn f _ _ (by simpa using h1) fun i c v hc hv => ?_
    rw [List.getElem?_map, Option.map_eq_some_iff] at hc
    obtain ⟨c0, hc0, rfl⟩ := hc
    exact ih i c0 v hc0 hv (sub (by simpa [roFree] using ho) hc0)
  | junk v => exact fun _ => by simp only [shift]; exact .junk v
mutual
theorem shift_pure (n : Nat) : ∀ v : V, v.pure = true → shift n v = v
  | .int .., _ | .bool _, _ | .str _, _ | .ro .., _ => by simp [shift]
  | .agg cs, h => by simp only [shift]; rw [shiftL_pure n cs (by simpa [V.pure] using h)]
  | .tup cs, h => by simp only [shift]; rw [shiftL_pure n cs (by simpa [V.pure] using h)]
  | .rp .., h | .sl .., h | .pt .., h | .ns, h | .em, h | .ne, h | .mp .., h | .np, h | .fn .., h | .junk, h => by simp [V.pure] at h
theorem shiftL_pure (n : Nat) : ∀ l : List V, V.pureL l = true → shiftL n l = l
  | [], _ => rfl
  | v :: l, h => by
    simp only [V.pureL, Bool.and_eq_true] at h
    simp only [shiftL]
    rw [shift_pure n v h.1, shiftL_pure n l h.2]
end
theorem noRef_same {v : V} {n : Nat} {h1 h2 : Hp} (hn : noRef v = true) : toRO h1 n v = toRO h2 n v := by
  cases v <;> simp only [noRef, V.pure] at hn <;> first | (cases hn; done) | skip
  case agg cs => simp only [toRO, hn, if_true]
  all_goals (unfold toRO; unfold cellRO; rfl)
theorem noRef_toRO {v u : V} {n : Nat} (hn : noRef v = true) (e : toRO h n v = some u) : toRO none0 n v = some u := by
  have key : ∀ {v : V}, v.pure = true → v ≠ .ns → (∀ cs, v ≠ .agg cs) → cellRO h n v = some u → cellRO none0 n v = some u := by
    intro v hp _ ha e
    cases v <;> simp [V.pure] at hp <;> unfold cellRO at e ⊢ <;> simp_all
  cases v <;> simp only [noRef, V.pure] at hn <;> first | (cases hn; done) | skip
  case agg cs =>
    simp only [toRO, hn, if_true] at e ⊢
    exact e
  all_goals (unfold toRO at e ⊢; unfold cellRO at e ⊢; exact e)
end
end Go.Ex
