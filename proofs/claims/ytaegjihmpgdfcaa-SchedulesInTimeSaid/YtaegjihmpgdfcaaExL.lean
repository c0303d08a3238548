/- What an operation touches: it answers alike where the rest of the blocks is another one. -/
import Derived.Test.YtaegjihmpgdfcaaExK
set_option linter.unusedVariables false
set_option linter.unusedSimpArgs false
namespace Go.Ex
open Go.RowKit
def inW (l : Option (List Nat)) (id : Nat) : Prop := match l with
  | none => True
  | some l => id ∈ l
open Classical in
/-- The blocks h, where those that were written are of h'. -/
noncomputable def patch (h h' : Hp) (wr : Option (List Nat)) : Hp := fun id => if inW wr id then h' id else h id
theorem patch_nil {h h' : Hp} : patch h h' (some []) = h := by
  funext id
  simp [patch, inW]
theorem patch_none {h h' : Hp} : patch h h' none = h' := by
  funext id
  simp [patch, inW]
theorem patch_upd {h h0 : Hp} {id : Nat} {b : Option LB} : patch h (upd h0 id b) (some [id]) = upd h id b := by
  funext j
  simp only [patch, inW, upd, List.mem_singleton]
  split <;> rfl
structure Loc (c : Cop) (ev : X → V) (h : Hp) (nx : Nat) (r : R) : Prop where
  frame : ∀ id, ¬ inW r.wr id → r.h id = h id
  sub : ∀ id, inW r.wr id → inW r.rd id
  new : ∀ id, nx ≤ id → id < r.nx → inW r.rd id
  touch : c.touch = false → r.rd = some [] ∧ r.wr = some []
  loc : ∀ h0 : Hp, (∀ id, inW r.rd id → h0 id = h id) → opA c ev h0 nx = some { r with h := patch h0 r.h r.wr }
theorem Loc.pure {c : Cop} {ev : X → V} {h : Hp} {nx : Nat} {r : R} {v : Option V} (h0 : ∀ h0, opA c ev h0 nx = ret0 h0 nx v) (e : ret0 h nx v = some r) : Loc c ev h nx r := by
  unfold ret0 at e
  rw [Option.map_eq_some_iff] at e
  obtain ⟨u, rfl, rfl⟩ := e
  refine ⟨fun _ _ => rfl, fun _ h => h, fun id h1 h2 => by simp only at h2; omega, fun _ => ⟨rfl, rfl⟩, fun h1 _ => ?_⟩
  rw [h0]
  simp only [patch_nil]
  rfl
theorem Loc.all {c : Cop} {ev : X → V} {h : Hp} {nx : Nat} {r : R} (e : opA c ev h nx = some r) (hrd : r.rd = none) (hwr : r.wr = none) (ht : c.touch = true) : Loc c ev h nx r := by
  refine ⟨fun id hn => by rw [hwr] at hn; exact absurd trivial hn, fun id _ => by rw [hrd]; trivial, fun id _ _ => by rw [hrd]; trivial, fun h => (by rw [ht] at h; cases h), fun h0 hh => ?_⟩
  have : h0 = h := funext fun id => hh id (by rw [hrd]; trivial)
  have hp : patch h r.h r.wr = r.h := by rw [hwr, patch_none]
  rw [this, hp, e]
theorem Loc.read {c : Cop} {ev : X → V} {h : Hp} {nx : Nat} {r : R} (hh : r.h = h) (hn : r.nx = nx) (hwr : r.wr = some []) (ht : c.touch = true)
    (hl : ∀ h0 : Hp, (∀ id, inW r.rd id → h0 id = h id) → opA c ev h0 nx = some { r with h := h0 }) : Loc c ev h nx r := by
  refine ⟨fun id _ => by rw [hh], fun id h => (by rw [hwr] at h; cases h), fun id h1 h2 => by omega, fun h => (by rw [ht] at h; cases h), fun h0 h1 => ?_⟩
  have hp : patch h0 r.h r.wr = h0 := by rw [hwr, patch_nil]
  rw [hp]
  exact hl h0 h1
theorem Loc.new' {c : Cop} {ev : X → V} {h : Hp} {nx : Nat} {r : R} {b : LB} (hh : r.h = upd h nx (some b)) (hn : r.nx = nx + 1) (hrd : r.rd = some [nx]) (hwr : r.wr = some [nx]) (ht : c.touch = true)
    (hl : ∀ h0 : Hp, opA c ev h0 nx = some { r with h := upd h0 nx (some b) }) : Loc c ev h nx r := by
  refine ⟨fun id hid => ?_, fun id h => by rw [hwr] at h; rw [hrd]; exact h, fun id h1 h2 => by rw [hrd]; simp [inW]; omega, fun h => (by rw [ht] at h; cases h), fun h0 h1 => ?_⟩
  · rw [hwr] at hid
    simp only [inW, List.mem_singleton] at hid
    rw [hh]
    simp [upd, hid]
  · have hp : patch h0 r.h r.wr = upd h0 nx (some b) := by rw [hwr, hh, patch_upd]
    rw [hp]
    exact hl h0
theorem view_loc {h h0 : Hp} {v : V} (hh : ∀ id, inW (some (idOf v)) id → h0 id = h id) : view h0 v = view h v := by
  cases v <;> simp only [view]
  rename_i id ver off
  rw [hh id (by simp [inW, idOf])]
theorem elems_loc {h h0 : Hp} {esz : Nat} {v : V} (hh : ∀ id, inW (some (idOf v)) id → h0 id = h id) : elems h0 esz v = elems h esz v := by
  cases v <;> simp only [elems]
  rename_i id ver off len cap
  rw [hh id (by simp [inW, idOf])]
/-- What append takes. -/
def srcA (h : Hp) (esz : Nat) (v : V) : Option (Nat × List V) := match v with | .str s => if esz = 1 then some (s.length, bytesV s) else none | v => elems h esz v
def appA (h : Hp) (nx esz bytes : Nat) (v : V) (ids : List Nat) (q : Option (Nat × List V)) : Option R := match q with
  | none => none
  | some (n, new) => match v with
    | .ns => if n * bytes ≤ 2 ^ 47 ∧ n < 2 ^ 62 then (if n = 0 then some ⟨.ns, h, nx, some ids, some []⟩
        else some ⟨.sl nx 0 0 n none, upd h nx (some ⟨0, esz, new, none⟩), nx + 1, some (nx :: ids), some [nx]⟩) else none
    | .em => if n * bytes ≤ 2 ^ 47 ∧ n < 2 ^ 62 then (if n = 0 then some ⟨.em, h, nx, some ids, some []⟩
        else some ⟨.sl nx 0 0 n none, upd h nx (some ⟨0, esz, new, none⟩), nx + 1, some (nx :: ids), some [nx]⟩) else none
    | .sl id ver off len cap => match h id with
      | some b => if b.ver = ver ∧ b.mp = none ∧ b.esz = esz ∧ off + len * esz ≤ b.cells.length ∧ (len + n) * bytes ≤ 2 ^ 47 ∧ len + n < 2 ^ 62 then
          some ⟨.sl id (ver + 1) 0 (len + n) (if n = 0 then cap else none), upd h id (some ⟨ver + 1, esz, (b.cells.drop off).take (len * esz) ++ new, none⟩), nx, some (id :: ids), some [id]⟩ else none
      | none => none
    | _ => none
theorem opA_app {x y : X} {esz bytes : Nat} {ev : X → V} {h : Hp} {nx : Nat} : opA (.app esz bytes x y) ev h nx = appA h nx esz bytes (ev x) (idOf (ev y)) (srcA h esz (ev y)) := by
  rfl
theorem opA_loc {c : Cop} {ev : X → V} {h : Hp} {nx : Nat} {r : R} (e : opA c ev h nx = some r) : Loc c ev h nx r := by
  cases c
  case mov x => exact .pure (fun _ => rfl) e
  case pick c a b =>
    have e0 := e
    unfold opA at e
    simp only at e
    split at e
    · rename_i t ht
      exact .pure (fun _ => by simp only [opA, ht]) e
    · cases e
  case bin op x y => exact .pure (fun _ => rfl) e
  case beq n x y =>
    unfold opA at e
    simp only at e
    split at e
    · rename_i a b h1 h2
      exact .pure (fun _ => by simp only [opA, h1, h2]) e
    · cases e
  case seq n tags x y =>
    unfold opA at e
    simp only at e
    split at e
    · rename_i a b h1 h2
      split at e
      · rename_i ht
        exact .pure (fun _ => by simp only [opA, h1, h2]; rw [if_pos ht]) e
      · cases e
    · cases e
  case never => cases e
  case isnil sl neg x =>
    unfold opA at e
    simp only at e
    have pure : ∀ {v : Option V}, ret0 h nx v = some r → (∀ h0, opA (.isnil sl neg x) ev h0 nx = ret0 h0 nx v) → Loc (.isnil sl neg x) ev h nx r := by
      intro v hv h0
      have := Loc.pure (c := .isnil sl neg x) h0 hv
      exact ⟨this.frame, this.sub, this.new, fun h => (by cases h), this.loc⟩
    split at e
    all_goals first
      | (rename_i h1; exact pure e (fun _ => by simp only [opA, h1]))
      | (rename_i id ver off n cap h1
         split at e
         · rename_i b hb
           split at e
           · rename_i hq
             injection e with e
             subst e
             exact .read rfl rfl rfl rfl fun h0 hh => by
               have := hh id (by simp [inW])
               simp only [opA, h1, this, hb]
               rw [if_pos hq]
           · cases e
         · cases e)
      | (rename_i n cs h1
         split at e
         · rename_i hn
           exact pure e (fun _ => by simp only [opA, h1]; rw [if_pos hn])
         · cases e)
      | (cases e; done)
      | (rename_i h1 h2; exact pure e (fun _ => by simp only [opA, h1, h2]))
      | skip
  case un op x => exact .pure (fun _ => rfl) e
  case conv k x =>
    unfold opA at e
    simp only at e
    split at e
    · rename_i q n h1
      exact .pure (fun _ => by simp only [opA, h1]) e
    · cases e
  case s2b x =>
    unfold opA at e
    simp only at e
    split at e
    · rename_i s h1
      injection e with e
      subst e
      exact .new' rfl rfl rfl rfl rfl fun h0 => by simp only [opA, h1]
    · cases e
  case b2s x =>
    unfold opA at e
    simp only at e
    split at e
    · rename_i n cs h1
      rw [Option.map_eq_some_iff] at e
      obtain ⟨s, hs, rfl⟩ := e
      exact .read rfl rfl rfl rfl fun h0 hh => by
        simp only [opA, elems_loc hh, h1, hs, Option.map_some]
    · cases e
  case strc x =>
    unfold opA at e
    simp only at e
    split at e
    · rename_i s h1
      exact .pure (fun _ => by simp only [opA, h1]) e
    · cases e
  case len s x =>
    unfold opA at e
    simp only at e
    split at e
    all_goals first
      | (cases e; done)
      | (rename_i h1; exact .pure (fun _ => by simp only [opA, h1]) e)
  case mm m x y =>
    unfold opA at e
    simp only at e
    split at e
    · rename_i k p k' q h1 h2
      split at e
      · rename_i hk
        exact .pure (fun _ => by simp only [opA, h1, h2]; rw [if_pos hk]) e
      · cases e
    · cases e
  case ext x i =>
    unfold opA at e
    simp only at e
    split at e
    · rename_i vs h1
      exact .pure (fun _ => by simp only [opA, h1]) e
    · cases e
  case fld x off sz =>
    unfold opA at e
    simp only at e
    split at e
    · rename_i cs h1
      split at e
      · exact .pure (fun _ => by simp only [opA, h1]) e
      · rename_i n
        split at e
        · rename_i hn
          exact .pure (fun _ => by simp only [opA, h1]; rw [if_pos hn]) e
        · cases e
    · cases e
  case idx x y =>
    unfold opA at e
    simp only at e
    split at e
    · rename_i s k i h1 h2
      split at e
      · rename_i hn
        exact .pure (fun _ => by simp only [opA, h1, h2]; rw [if_pos hn]) e
      · cases e
    · cases e
  case faddr x off =>
    unfold opA at e
    simp only at e
    split at e
    all_goals first
      | (cases e; done)
      | (rename_i h1; exact .pure (fun _ => by simp only [opA, h1]) e)
  case iaddr x y esz =>
    unfold opA at e
    simp only at e
    have pure : ∀ {v : Option V}, ret0 h nx v = some r → (∀ h0, opA (.iaddr x y esz) ev h0 nx = ret0 h0 nx v) → Loc (.iaddr x y esz) ev h nx r := by
      intro v hv h0
      have := Loc.pure (c := .iaddr x y esz) h0 hv
      exact ⟨this.frame, this.sub, this.new, fun h => (by cases h), this.loc⟩
    split at e
    · rename_i n cs k i h1 h2
      split at e
      · rename_i hn
        exact pure e (fun _ => by simp only [opA, h1, h2]; rw [if_pos hn])
      · cases e
    · rename_i id ver off n cap k i h1 h2
      split at e
      · rename_i hn
        split at e
        · rename_i b hb
          split at e
          · rename_i hq
            injection e with e
            subst e
            exact .read rfl rfl rfl rfl fun h0 hh => by
              have := hh id (by simp [inW])
              simp only [opA, h1, h2, this, hb]
              rw [if_pos hn, if_pos hq]
          · cases e
        · cases e
      · cases e
    · cases e
  case ld x sz =>
    unfold opA at e
    simp only at e
    split at e
    · rename_i cs off h1
      split at e
      · rw [Option.map_eq_some_iff] at e
        obtain ⟨v, hv, rfl⟩ := e
        exact .read rfl rfl rfl rfl fun h0 hh => by simp only [opA, view_loc hh, h1, hv, Option.map_some]
      · rename_i n
        split at e
        · rename_i hn
          injection e with e
          subst e
          exact .read rfl rfl rfl rfl fun h0 hh => by
            simp only [opA, view_loc hh, h1]
            rw [if_pos hn]
        · cases e
    · cases e
  case st x v n =>
    unfold opA at e
    simp only at e
    split at e
    · rename_i id ver off h1
      split at e
      · rename_i b hb
        split at e
        · rename_i hq
          injection e with e
          subst e
          refine ⟨fun j hj => ?_, fun _ h => h, fun j h1 h2 => by simp only at h2; omega, fun h => (by cases h), fun h0 hh => ?_⟩
          · simp only [inW, List.mem_singleton] at hj
            simp [upd, hj]
          · have := hh id (by simp [inW])
            simp only [opA, h1, this, hb]
            rw [if_pos hq, patch_upd]
        · cases e
      · cases e
    · cases e
  case box x =>
    unfold opA at e
    simp only at e
    split at e
    · rename_i hs
      injection e with e
      subst e
      exact .new' rfl rfl rfl rfl rfl fun h0 => by simp only [opA]; rw [if_pos hs]
    · cases e
  case alloc cs =>
    unfold opA at e
    simp only at e
    injection e with e
    subst e
    exact .new' rfl rfl rfl rfl rfl fun h0 => by simp only [opA]
  case bs len esz zero ps =>
    unfold opA at e
    simp only at e
    rw [Option.map_eq_some_iff] at e
    obtain ⟨cs, hcs, rfl⟩ := e
    exact .new' rfl rfl rfl rfl rfl fun h0 => by simp only [opA, hcs, Option.map_some]
  case bld z ps => exact .pure (fun _ => rfl) e
  case mk esz by_ z l c =>
    unfold opA at e
    simp only at e
    split at e
    · rename_i p q h1 h2
      split at e
      · rename_i hs
        injection e with e
        subst e
        exact .new' rfl rfl rfl rfl rfl fun h0 => by simp only [opA, h1, h2]; rw [if_pos hs]
      · cases e
    · cases e
  case slc s x lo hi esz =>
    have pure : ∀ {v : Option V}, ret0 h nx v = some r → (∀ h0, opA (.slc s x lo hi esz) ev h0 nx = ret0 h0 nx v) → Loc (.slc s x lo hi esz) ev h nx r := by
      intro v hv h0
      have := Loc.pure (c := .slc s x lo hi esz) h0 hv
      exact ⟨this.frame, this.sub, this.new, fun h => (by cases h), this.loc⟩
    unfold opA at e
    simp only at e
    split at e
    · rename_i l h1
      split at e
      · rename_i p q h2
        exact pure e (fun _ => by simp only [opA, h1, h2])
      · cases e
    · rename_i h1
      split at e
      · rename_i pq h2
        exact pure e (fun _ => by simp only [opA, h1, h2])
      · cases e
    · rename_i h1
      split at e
      · rename_i pq h2
        exact pure e (fun _ => by simp only [opA, h1, h2])
      · cases e
    · rename_i n cs h1
      split at e
      · rename_i p q h2
        split at e
        · rename_i hn
          exact pure e (fun _ => by simp only [opA, h1, h2]; rw [if_pos hn])
        · cases e
      · cases e
    · rename_i id ver off n cap h1
      split at e
      · rename_i p q h2
        split at e
        · rename_i b hb
          split at e
          · rename_i hq
            injection e with e
            subst e
            exact .read rfl rfl rfl rfl fun h0 hh => by
              have := hh id (by simp [inW])
              simp only [opA, h1, h2, this, hb]
              rw [if_pos hq]
          · cases e
        · cases e
      · cases e
    · cases e
  case app esz by_ x y =>
    have hsrc : ∀ h0 : Hp, (∀ id, inW (some (idOf (ev y))) id → h0 id = h id) → srcA h0 esz (ev y) = srcA h esz (ev y) := fun h0 hh => by
      have := elems_loc (esz := esz) hh
      unfold srcA
      cases hy : ev y <;> rw [hy] at this <;> simp only <;> exact this
    rw [opA_app] at e
    unfold appA at e
    split at e
    · cases e
    rename_i n new hs
    have fresh : ∀ {v : V}, opA (.app esz by_ x y) ev h nx = some ⟨.sl nx 0 0 n none, upd h nx (some ⟨0, esz, new, none⟩), nx + 1, some (nx :: idOf (ev y)), some [nx]⟩ →
        (∀ h0 : Hp, (∀ id, inW (some (nx :: idOf (ev y))) id → h0 id = h id) → opA (.app esz by_ x y) ev h0 nx = some ⟨.sl nx 0 0 n none, upd h0 nx (some ⟨0, esz, new, none⟩), nx + 1, some (nx :: idOf (ev y)), some [nx]⟩) →
        Loc (.app esz by_ x y) ev h nx ⟨.sl nx 0 0 n none, upd h nx (some ⟨0, esz, new, none⟩), nx + 1, some (nx :: idOf (ev y)), some [nx]⟩ := by
      intro v e0 h1
      refine ⟨fun id hid => ?_, fun id hid => ?_, fun id g1 g2 => ?_, fun h => (by cases h), fun h0 hh => ?_⟩
      · simp only [inW, List.mem_singleton] at hid
        simp [upd, hid]
      · simp only [inW, List.mem_singleton] at hid
        simp [inW, hid]
      · simp only at g2
        have : id = nx := by omega
        simp [inW, this]
      · rw [h1 h0 hh]
        simp only [patch_upd]
    have tail : ∀ {h0 : Hp}, (∀ id, inW (some (nx :: idOf (ev y))) id → h0 id = h id) → ∀ id, inW (some (idOf (ev y))) id → h0 id = h id := fun hh id hid => hh id (by simp only [inW, List.mem_cons] at hid ⊢; exact .inr hid)
    split at e
    · rename_i h1
      split at e
      · rename_i hq
        split at e
        · rename_i h0
          injection e with e
          subst e
          refine .read rfl rfl rfl rfl fun h' hh => ?_
          rw [opA_app, hsrc h' hh, hs]
          unfold appA
          simp only [h1]
          rw [if_pos hq, if_pos h0]
        · rename_i h0
          injection e with e
          subst e
          refine fresh (v := .ns) ?_ fun h' hh => ?_
          · rw [opA_app, hs]
            unfold appA
            simp only [h1]
            rw [if_pos hq, if_neg h0]
          · rw [opA_app, hsrc h' (tail hh), hs]
            unfold appA
            simp only [h1]
            rw [if_pos hq, if_neg h0]
      · cases e
    · rename_i h1
      split at e
      · rename_i hq
        split at e
        · rename_i h0
          injection e with e
          subst e
          refine .read rfl rfl rfl rfl fun h' hh => ?_
          rw [opA_app, hsrc h' hh, hs]
          unfold appA
          simp only [h1]
          rw [if_pos hq, if_pos h0]
        · rename_i h0
          injection e with e
          subst e
          refine fresh (v := .ns) ?_ fun h' hh => ?_
          · rw [opA_app, hs]
            unfold appA
            simp only [h1]
            rw [if_pos hq, if_neg h0]
          · rw [opA_app, hsrc h' (tail hh), hs]
            unfold appA
            simp only [h1]
            rw [if_pos hq, if_neg h0]
      · cases e
    · rename_i id ver off len cap h1
      split at e
      · rename_i b hb
        split at e
        · rename_i hq
          injection e with e
          subst e
          refine ⟨fun j hj => ?_, fun j hj => ?_, fun j g1 g2 => ?_, fun h => (by cases h), fun h' hh => ?_⟩
          · simp only [inW, List.mem_singleton] at hj
            simp [upd, hj]
          · simp only [inW, List.mem_singleton] at hj
            simp [inW, hj]
          · simp only at g2
            omega
          · have hid : h' id = h id := hh id (by simp [inW])
            have ht : ∀ j, inW (some (idOf (ev y))) j → h' j = h j := fun j hj => hh j (by simp only [inW, List.mem_cons] at hj ⊢; exact .inr hj)
            rw [opA_app, hsrc h' ht, hs]
            unfold appA
            simp only [h1, hid, hb]
            rw [if_pos hq]
            simp only [patch_upd]
        · cases e
      · cases e
    · cases e
  case fnc f cs => exact .pure (fun _ => rfl) e
  case nilc x =>
    unfold opA at e
    simp only at e
    split at e
    all_goals first
      | (cases e; done)
      | (rename_i h1; exact .pure (fun _ => by simp only [opA, h1]) e)
  case mlen x =>
    unfold opA at e
    simp only at e
    split at e
    · rename_i id ver h1
      split at e
      · rename_i b hb
        split at e
        · rename_i l hl
          split at e
          · rename_i hq
            injection e with e
            subst e
            exact .read rfl rfl rfl rfl fun h0 hh => by
              have := hh id (by simp [inW])
              simp only [opA, h1, this, hb, hl]
              rw [if_pos hq]
          · cases e
        · cases e
      · cases e
    · cases e
  case mnew =>
    unfold opA at e
    simp only at e
    injection e with e
    subst e
    exact .new' rfl rfl rfl rfl rfl fun h0 => by simp only [opA]
  case mget ok kt z x k =>
    unfold opA at e
    simp only at e
    split at e
    · rename_i id ver h1
      split at e
      · rename_i b hb
        split at e
        · rename_i l hl
          split at e
          · rename_i hq
            split at e
            all_goals first
              | (cases e; done)
              | (rename_i h2
                 injection e with e
                 subst e
                 exact .read rfl rfl rfl rfl fun h0 hh => by
                   have := hh id (by simp [inW])
                   simp only [opA, h1, this, hb, hl]
                   rw [if_pos hq]
                   simp only [h2])
          · cases e
        · cases e
      · cases e
    · cases e
  case mset kt x k v =>
    unfold opA at e
    simp only at e
    split at e
    · rename_i id ver h1
      split at e
      · rename_i b hb
        split at e
        · rename_i l hl
          split at e
          · rename_i hq
            split at e
            · rename_i f h2
              injection e with e
              subst e
              refine ⟨fun j hj => ?_, fun _ h => h, fun j h1 h2 => by simp only at h2; omega, fun h => (by cases h), fun h0 hh => ?_⟩
              · simp only [inW, List.mem_singleton] at hj
                simp [upd, hj]
              · have := hh id (by simp [inW])
                simp only [opA, h1, this, hb, hl]
                rw [if_pos hq]
                simp only [h2, patch_upd]
            · cases e
          · cases e
        · cases e
      · cases e
    · cases e
  case bro len n z ps => exact .pure (fun _ => rfl) e
  case sla x lo hi n esz =>
    unfold opA at e
    simp only at e
    split at e
    · rename_i id ver off h1
      split at e
      · rename_i p q h2
        split at e
        · rename_i b hb
          split at e
          · rename_i hq
            injection e with e
            subst e
            exact .read rfl rfl rfl rfl fun h0 hh => by
              have := hh id (by simp [inW])
              simp only [opA, h1, h2, this, hb]
              rw [if_pos hq]
          · cases e
        · cases e
      · cases e
    · cases e
  case ala esz cs =>
    unfold opA at e
    simp only at e
    injection e with e
    subst e
    exact .new' rfl rfl rfl rfl rfl fun h0 => by simp only [opA]
  case clr x n z =>
    unfold opA at e
    simp only at e
    split at e
    · rename_i id ver off len cap h1
      split at e
      · rename_i b hb
        split at e
        · rename_i hq
          injection e with e
          subst e
          refine ⟨fun j hj => ?_, fun _ h => h, fun j h1 h2 => by simp only at h2; omega, fun h => (by cases h), fun h0 hh => ?_⟩
          · simp only [inW, List.mem_singleton] at hj
            simp [upd, hj]
          · have := hh id (by simp [inW])
            simp only [opA, h1, this, hb]
            rw [if_pos hq]
            simp only [patch_upd]
        · cases e
      · cases e
    · cases e
  case mrk x =>
    unfold opA at e
    simp only at e
    split at e
    · rename_i id ver off len cap h1
      split at e
      · rename_i b hb
        split at e
        · rename_i hq
          injection e with e
          subst e
          refine ⟨fun j hj => ?_, fun _ h => h, fun j h1 h2 => by simp only at h2; omega, fun h => (by cases h), fun h0 hh => ?_⟩
          · simp only [inW, List.mem_singleton] at hj
            simp [upd, hj]
          · have := hh id (by simp [inW])
            simp only [opA, h1, this, hb]
            rw [if_pos hq]
            simp only [patch_upd]
        · cases e
      · cases e
    · cases e
  all_goals (unfold opA at e; cases e)
end Go.Ex
