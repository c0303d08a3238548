/- One operation, whichever: what the abstract machine says of it holds of the model. -/
import Derived.Test.YtaegjihmpgdfcaaExI
set_option linter.unusedVariables false
set_option linter.unusedSimpArgs false
namespace Go.Ex
open Go.RowKit
section
variable {φ : Nat → Nat × Nat} {h : Hp} {S : Nat → Prop} {w w0 : World} {P : Program} {a : Act} {o : Oper} {t : Nat → V} {sh : Nat → Bool} {nx : Nat}
theorem opA_fresh {c : Cop} {ev : X → V} {r : R} (hfr : ∀ id, nx ≤ id → h id = none) (e : opA c ev h nx = some r) : nx ≤ r.nx ∧ ∀ id, r.nx ≤ id → r.h id = none := by
  have hsame : r.h = h → r.nx = nx → nx ≤ r.nx ∧ ∀ id, r.nx ≤ id → r.h id = none := by
    intro h1 h2
    rw [h1, h2]
    exact ⟨Nat.le_refl _, hfr⟩
  have hr0 : ∀ {v : Option V}, ret0 h nx v = some r → nx ≤ r.nx ∧ ∀ id, r.nx ≤ id → r.h id = none := by
    intro v hv
    unfold ret0 at hv
    rw [Option.map_eq_some_iff] at hv
    obtain ⟨u, _, rfl⟩ := hv
    exact ⟨Nat.le_refl _, hfr⟩
  have hnew : ∀ {b : LB}, r.h = upd h nx (some b) → r.nx = nx + 1 → nx ≤ r.nx ∧ ∀ id, r.nx ≤ id → r.h id = none := by
    intro b h1 h2
    rw [h1, h2]
    refine ⟨by omega, fun id hid => ?_⟩
    have : id ≠ nx := by omega
    simp only [upd, if_neg this]
    exact hfr id (by omega)
  have hupd : ∀ {id : Nat} {b b' : LB}, h id = some b → r.h = upd h id (some b') → r.nx = nx → nx ≤ r.nx ∧ ∀ id, r.nx ≤ id → r.h id = none := by
    intro id b b' h0 h1 h2
    rw [h1, h2]
    refine ⟨Nat.le_refl _, fun j hj => ?_⟩
    have : j ≠ id := fun q => by
      rw [q] at hj
      rw [hfr id hj] at h0
      cases h0
    simp only [upd, if_neg this]
    exact hfr j hj
  cases c <;> unfold opA at e <;> (try simp only at e)
  all_goals (repeat' split at e)
  all_goals first
    | exact hr0 e
    | (cases e; done)
    | (injection e with e; subst e; first | exact hsame rfl rfl | exact hnew rfl rfl | exact hupd (by assumption) rfl rfl)
    | (rw [Option.map_eq_some_iff] at e
       obtain ⟨_, _, e⟩ := e
       subst e
       first | exact hsame rfl rfl | exact hnew rfl rfl)
theorem opA_nx {c : Cop} {ev : X → V} {r : R} (e : opA c ev h nx = some r) : nx ≤ r.nx := by
  have hr0 : ∀ {v : Option V}, ret0 h nx v = some r → nx ≤ r.nx := by
    intro v hv
    unfold ret0 at hv
    rw [Option.map_eq_some_iff] at hv
    obtain ⟨u, _, rfl⟩ := hv
    exact Nat.le_refl _
  cases c <;> unfold opA at e <;> (try simp only at e)
  all_goals (repeat' split at e)
  all_goals first
    | exact hr0 e
    | (cases e; done)
    | (injection e with e; subst e; first | exact Nat.le_refl _ | exact Nat.le_succ _)
    | (rw [Option.map_eq_some_iff] at e
       obtain ⟨_, _, e⟩ := e
       subst e
       first | exact Nat.le_refl _ | exact Nat.le_succ _)
/-- What a call's arguments come to in the callee. -/
theorem calls_pure (hR : Rel P w0 φ S h w) {f : Nat} {vs : List V} {xs : Array Value} {as : List V} {r : V × List LB} (hfr : ∀ id, nx ≤ id → id < nx + r.2.length → h id = none) (hx : Reps φ h S w vs xs) (has : vs.mapM (toRO h 8) = some as)
    (hok : OkF P f as r) (hres : okRes vs r = true) :
    Calls P f xs w fun e w' => ∃ x φ' S', e = .returned x ∧ Rel P w0 φ' S' (addB h nx r.2) w' ∧ Ext φ h S w φ' (addB h nx r.2) S' w' ∧ (∀ b, S' b → b < w.heap.size → S b) ∧ Rep φ' (addB h nx r.2) S' w' (shift nx r.1) x := by
  obtain ⟨hpb, hok⟩ := hok
  obtain ⟨g1, g2⟩ := mapM_at has
  have main : ∀ (Sc : Nat → Prop), (∀ r, Sc r → r < w.heap.size) → Reps φ none0 Sc w as xs →
      ((∀ b, Sc b → S b) ∨ (roFree r.1 = true ∧ ∀ b ∈ r.2, roFreeL b.cells = true)) →
      Calls P f xs w fun e w' => ∃ x φ' S', e = .returned x ∧ Rel P w0 φ' S' (addB h nx r.2) w' ∧ Ext φ h S w φ' (addB h nx r.2) S' w' ∧ (∀ b, S' b → b < w.heap.size → S b) ∧ Rep φ' (addB h nx r.2) S' w' (shift nx r.1) x := by
    intro Sc hSc hrep hor
    refine (hok w Sc φ xs (hR.gl.on (hR.below)) hSc hrep).mono fun e w' he => ?_
    obtain ⟨x, φc, S'c, rfl, hRc, hs1, hs2, hrx⟩ := he
    have bel := hRc.below
    have blk := bel.block
    let φ' : Nat → Nat × Nat := fun id => if nx ≤ id ∧ id < nx + r.2.length then φc (id - nx) else φ id
    let S' : Nat → Prop := fun b => S b ∨ (w.heap.size ≤ b ∧ S'c b)
    have hor' : (∀ b, S'c b → S' b) ∨ (roFree r.1 = true ∧ ∀ b ∈ r.2, roFreeL b.cells = true) := by
      rcases hor with hor | hor
      · refine .inl fun b hb => ?_
        rcases Nat.lt_or_ge b w.heap.size with q | q
        · exact .inl (hor b (hs2 b hb q))
        · exact .inr ⟨q, hb⟩
      · exact .inr hor
    have hold : ∀ id b, h id = some b → ¬ (nx ≤ id ∧ id < nx + r.2.length) := fun id b hb hq => by
      rw [hfr id hq.1 hq.2] at hb
      cases hb
    have hext : Ext φ h S w φ' (addB h nx r.2) S' w' := by
      refine ⟨fun _ x => .inl x, fun r hr => blk r (hR.sin r hr), fun id b hb => ⟨b, ?_, Nat.le_refl _, fun _ => ⟨rfl, ?_, ?_⟩⟩⟩
      · rw [addB_get, if_neg (hold id b hb)]; exact hb
      · simp only [φ', if_neg (hold id b hb)]
      · simp only [szOf, blk _ (hR.lt hb)]
    have hnew : ∀ id b, (addB none0 0 r.2) id = some b → (addB h nx r.2) (nx + id) = some b ∧ φ' (nx + id) = φc id := by
      intro id b hb
      rw [addB_get] at hb
      split at hb
      · rename_i hq
        have hq' : nx ≤ nx + id ∧ nx + id < nx + r.2.length := by omega
        refine ⟨?_, ?_⟩
        · rw [addB_get, if_pos hq', Nat.add_sub_cancel_left]
          simpa using hb
        · simp only [φ', if_pos hq', Nat.add_sub_cancel_left]
      · cases hb
    refine ⟨x, φ', S', rfl, ⟨hR.below.trans (bel.mono hR.base), hR.gl, fun b hb => ?_, fun id b hb => ?_, fun i j b c hi hj hij => ?_⟩, hext, fun b hb hlt => ?_, shift_rep hnew hrx (hor'.imp id And.left)⟩
    · rcases hb with hb | hb
      · exact Nat.lt_of_lt_of_le (hR.sin b hb) bel.size
      · exact hRc.sin b hb.2
    · rw [addB_get] at hb
      split at hb
      · rename_i hq
        have hc : (addB none0 0 r.2) (id - nx) = some b := by rw [addB_get, if_pos (by omega)]; simpa using hb
        have hbm : b ∈ r.2 := List.mem_of_getElem? hb
        have hmp := (hpb b hbm).2
        obtain ⟨l1, l2, l3, l4, -⟩ := hRc.blk _ _ hc
        obtain ⟨arr, el, fz, z1, z2, z3, z4⟩ := l4 hmp
        have hφ : φ' id = φc (id - nx) := by simp only [φ', if_pos hq]
        refine ⟨by rw [hφ]; exact Nat.le_trans hR.base l1, by
          rw [hφ]
          rintro (q | q)
          · have := hR.sin _ q; omega
          · exact l2 q.2, by rw [hφ]; exact l3, fun _ => ⟨arr, el, fz, by rw [hφ]; exact z1, by rw [hφ]; exact z2, z3, fun i c v h1 h2 => ?_⟩, fun l hl => by rw [hmp] at hl; cases hl⟩
        rw [hφ] at h2
        obtain ⟨q1, q2⟩ := z4 i c v h1 h2
        have hcp := pureL_iff.1 (hpb b hbm).1 c (List.mem_of_getElem? h1)
        have := shift_rep hnew q1 (hor'.imp (fun z => z) fun z => roFreeL_iff.1 (z.2 b hbm) c (List.mem_of_getElem? h1))
        rw [shift_pure nx c hcp] at this
        exact ⟨this, q2⟩
      · rename_i hq
        have hφ : φ' id = φ id := by simp only [φ', if_neg hq]
        refine (hR.blk _ _ hb).keep hext hφ ?_ bel.size (blk _ (hR.lt hb))
        rintro (q | q)
        · exact (hR.blk _ _ hb).out q
        · have := hR.lt hb; omega
    · rw [addB_get] at hi hj
      by_cases h1 : nx ≤ i ∧ i < nx + r.2.length <;> by_cases h2 : nx ≤ j ∧ j < nx + r.2.length
      · rw [if_pos h1] at hi
        rw [if_pos h2] at hj
        simp only [φ', if_pos h1, if_pos h2] at hij
        have hc1 : (addB none0 0 r.2) (i - nx) = some b := by rw [addB_get, if_pos (by omega)]; simpa using hi
        have hc2 : (addB none0 0 r.2) (j - nx) = some c := by rw [addB_get, if_pos (by omega)]; simpa using hj
        have := hRc.inj _ _ _ _ hc1 hc2 hij
        omega
      · rw [if_pos h1] at hi
        rw [if_neg h2] at hj
        simp only [φ', if_pos h1, if_neg h2] at hij
        have hc1 : (addB none0 0 r.2) (i - nx) = some b := by rw [addB_get, if_pos (by omega)]; simpa using hi
        have := (hRc.blk _ _ hc1).lo
        have := hR.lt hj
        omega
      · rw [if_neg h1] at hi
        rw [if_pos h2] at hj
        simp only [φ', if_neg h1, if_pos h2] at hij
        have hc2 : (addB none0 0 r.2) (j - nx) = some c := by rw [addB_get, if_pos (by omega)]; simpa using hj
        have := (hRc.blk _ _ hc2).lo
        have := hR.lt hi
        omega
      · rw [if_neg h1] at hi
        rw [if_neg h2] at hj
        simp only [φ', if_neg h1, if_neg h2] at hij
        exact hR.inj i j b c hi hj hij
    · rcases hb with hb | hb
      · exact hb
      · omega
  have arep : ∀ (hM : Hp) (Sc : Nat → Prop), (∀ id b, hM id = some b → h id = some b) → Wide φ hM S Sc → (∀ v u, v ∈ vs → toRO h 8 v = some u → toRO hM 8 v = some u) → Reps φ none0 Sc w as xs := by
    intro hM Sc h1 h2 h3
    refine ⟨by rw [hx.1, g1], fun i c x hc hxi => ?_⟩
    obtain ⟨v, hv, hvc⟩ := mapM_getElem has i c hc
    exact (toRO_rep hR h1 h2 (hx.2 i v x hv hxi) (h3 v c (List.mem_of_getElem? hv) hvc)).1
  unfold okRes at hres
  rw [Bool.or_eq_true] at hres
  rcases hres with hn | hf
  · refine main S hR.sin (arep none0 S (fun id b hb => by cases hb) ⟨fun _ x => x, fun id b hb => by cases hb⟩ fun v u hv hu => ?_) (.inl fun _ x => x)
    exact noRef_toRO (by rw [List.all_eq_true] at hn; exact hn v hv) hu
  · rw [Bool.and_eq_true, List.all_eq_true] at hf
    exact main (fun b => b < w.heap.size) (fun _ x => x) (arep h _ (fun _ _ hb => hb) ⟨hR.sin, fun id b hb => hR.lt hb⟩ fun _ _ _ hu => hu) (.inr ⟨hf.1, hf.2⟩)
end
end Go.Ex
