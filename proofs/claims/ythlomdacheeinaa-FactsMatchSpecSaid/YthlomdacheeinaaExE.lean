/- The small operations that read blocks, make blocks and write into them. -/
import Derived.Test.YthlomdacheeinaaExD
import Derived.Laws.Append
import Derived.Lib.ConvBytes
set_option linter.unusedVariables false
set_option linter.unusedSimpArgs false
namespace Go.Ex
open Go.RowKit
section
variable {φ : Nat → Nat} {h : Hp} {S : Nat → Prop} {w w0 : World} {P : Program} {a : Act} {o : Oper} {t : Nat → V} {sh : Nat → Bool}
/-- What a reference reads, in the world. -/
theorem view_rep (hR : Rel w0 φ S h w) {v : V} {x : Value} (rx : Rep φ h S w v x) {cs : List V} {off : Nat} (hv : view h v = some (cs, off)) :
    ∃ r o arr elem fz, x = .pointer (some ⟨r, o + off, none⟩) ∧ w.heap[r]? = some (.cells arr elem fz) ∧ o + cs.length ≤ arr.size ∧
      ∀ i c u, cs[i]? = some c → arr[o + i]? = some u → Rep φ h S w c u ∧ u.oneCell' = true := by
  unfold view at hv
  split at hv
  · injection hv with hv
    cases hv
    cases rx
    rename_i p q vs qp q1 q2 q3
    obtain ⟨arr, el, fz, z1, z2, z3, z4⟩ := q2
    refine ⟨p, q, arr, el, fz, rfl, z1, z2, fun i c u hc hu => ⟨q3 i c u hc ?_, z4 i u ?_ hu⟩⟩
    · have hi : i < cs.length := (List.getElem?_eq_some_iff.1 hc).1
      rw [z3, Array.getElem?_extract, if_pos (by omega)]
      exact hu
    · exact (List.getElem?_eq_some_iff.1 hc).1
  · split at hv
    · rename_i bb hbb
      split at hv
      · rename_i he
        injection hv with hv
        cases hv
        cases rx
        rename_i b hb
        obtain ⟨b1, q1, q2, q3⟩ := hb
        rw [hbb] at q1
        injection q1 with q1
        subst q1
        have := q3 he
        subst this
        obtain ⟨l1, l2, arr, el, fz, z1, z2, z3, z4⟩ := hR.blk _ _ hbb
        refine ⟨_, 0, arr, el, fz, by rw [Nat.zero_add], z1, by omega, fun i c u hc hu => z4 i c u hc (by simpa using hu)⟩
      · cases hv
    · cases hv
  · cases hv
theorem cell_at {r o : Nat} {arr : Array Value} {elem : TypeId} {fz : Nat × Nat} (hw : w.heap[r]? = some (.cells arr elem fz)) : w.cell? ⟨r, o, none⟩ = arr[o]? := by
  simp [World.cell?, hw]
theorem frozen_at {r o : Nat} {arr : Array Value} {elem : TypeId} {fz : Nat × Nat} (hw : w.heap[r]? = some (.cells arr elem fz)) (hz : fz.2 ≤ fz.1 ∨ arr.size ≤ fz.1) (ho : o < arr.size) : w.frozen? ⟨r, o, none⟩ = false := by
  obtain ⟨lo, hi⟩ := fz
  simp only [World.frozen?, hw]
  simp only at hz
  rw [Bool.and_eq_false_iff]
  by_cases hlo : lo ≤ o
  · right; simp; omega
  · left; simpa using hlo
theorem run_loadAgg {ty : TypeId} {n r o : Nat} {arr : Array Value} {elem : TypeId} {fz : Nat × Nat} (hw : w.heap[r]? = some (.cells arr elem fz)) (hle : o + n ≤ arr.size)
    (ha : aggT P ty = some true) (hs : szT P ty = some n) : (loadVar ty ⟨r, o, none⟩).run P w = .ok (.agg (arr.extract o (o + n))) w := by
  have := run_loadCells_list (P := P) (w := w) ⟨r, o, none⟩ (arr.extract o (o + n)).toList (fun j v hv => by
    rw [add_none, cell_at hw]
    have hj := (List.getElem?_eq_some_iff.1 hv).1
    rw [Array.getElem?_toList, Array.getElem?_extract] at hv
    split at hv
    · exact hv
    · cases hv)
  have hl : (arr.extract o (o + n)).toList.length = n := by simp; omega
  rw [hl] at this
  rw [Array.toArray_toList] at this
  simp [loadVar, run_isAgg' ha, run_sizeOf' hs, this]
theorem ldT_cases {ty : TypeId} {sz : Option Nat} (e : ldT P ty = some sz) : (sz = none ∧ aggT P ty = some false ∧ szT P ty = some 1) ∨ ∃ n, sz = some n ∧ aggT P ty = some true ∧ szT P ty = some n := by
  unfold ldT at e
  split at e
  · injection e with e; exact .inr ⟨_, e.symm, by assumption, by assumption⟩
  · injection e with e; exact .inl ⟨e.symm, by assumption, by assumption⟩
  · cases e
theorem szOf_at {r : Nat} {arr : Array Value} {elem : TypeId} {fz : Nat × Nat} (hw : w.heap[r]? = some (.cells arr elem fz)) : szOf w r = arr.size := by
  simp [szOf, hw]
theorem lt_of_at {r : Nat} {o : Obj} (hw : w.heap[r]? = some o) : r < w.heap.size := (Array.getElem?_eq_some_iff.1 hw).1
variable {w' : World}
theorem Rel.lt (hR : Rel w0 φ S h w) {id : Nat} {b : LB} (hb : h id = some b) : φ id < w.heap.size := by
  obtain ⟨l1, l2, arr, el, fz, z1, z2⟩ := hR.blk _ _ hb
  exact lt_of_at z1
theorem Rel.base (hR : Rel w0 φ S h w) : w0.heap.size ≤ w.heap.size := hR.below.size
/-- A new block. -/
theorem Rel.new (hR : Rel w0 φ S h w) (hb : Below w.heap.size w w') {nx g : Nat} (hf : h nx = none) (hg : w.heap.size ≤ g) {arr : Array Value} {el : TypeId} {fz : Nat × Nat}
    (hw : w'.heap[g]? = some (.cells arr el fz)) {cells : List V} (hl : cells.length ≤ arr.size) (hz : fz.2 ≤ fz.1 ∨ arr.size ≤ fz.1)
    (hc : ∀ (i : Nat) c v, cells[i]? = some c → arr[i]? = some v → Rep φ h S w c v ∧ v.oneCell' = true) (esz : Nat) :
    Rel w0 (upd φ nx g) S (upd h nx (some ⟨0, esz, cells⟩)) w' ∧ Ext φ h S w (upd φ nx g) (upd h nx (some ⟨0, esz, cells⟩)) S w' := by
  have hext : Ext φ h S w (upd φ nx g) (upd h nx (some ⟨0, esz, cells⟩)) S w' := by
    refine ⟨fun _ x => x, fun r hr => hb.block r (hR.sin r hr), fun id b hib => ⟨b, ?_, Nat.le_refl _, fun _ => ⟨rfl, ?_, ?_⟩⟩⟩
    · have : id ≠ nx := fun q => by rw [q, hf] at hib; cases hib
      simp [upd, this, hib]
    · have : id ≠ nx := fun q => by rw [q, hf] at hib; cases hib
      simp [upd, this]
    · simp only [szOf, hb.block _ (hR.lt hib)]
  refine ⟨⟨?_, fun r hr => Nat.lt_of_lt_of_le (hR.sin r hr) hb.size, fun id b hib => ?_, fun i j b c hi hj hij => ?_⟩, hext⟩
  · exact hR.below.trans (hb.mono hR.base)
  · by_cases hid : id = nx
    · subst hid
      simp only [upd, if_true] at hib
      injection hib with hib
      subst hib
      refine ⟨by simp only [upd, if_true]; exact Nat.le_trans hR.base hg, ?_, arr, el, fz, by simpa [upd] using hw, hl, hz, fun i c v h1 h2 => ?_⟩
      · simp only [upd, if_true]
        intro hs
        have := hR.sin g hs
        omega
      · obtain ⟨q1, q2⟩ := hc i c v h1 h2
        exact ⟨q1.ext hext, q2⟩
    · have hib' : h id = some b := by simpa [upd, hid] using hib
      obtain ⟨l1, l2, arr', el', fz', z1, z2, z3, z4⟩ := hR.blk _ _ hib'
      have hφ : upd φ nx g id = φ id := by simp [upd, hid]
      refine ⟨by rw [hφ]; exact l1, by rw [hφ]; exact l2, arr', el', fz', by rw [hφ, hb.block _ (hR.lt hib')]; exact z1, z2, z3, fun i c v h1 h2 => ?_⟩
      obtain ⟨q1, q2⟩ := z4 i c v h1 h2
      exact ⟨q1.ext hext, q2⟩
  · by_cases h1 : i = nx <;> by_cases h2 : j = nx
    · rw [h1, h2]
    · have hj' : h j = some c := by simpa [upd, h2] using hj
      have := hR.lt hj'
      simp [upd, h1, h2] at hij
      omega
    · have hi' : h i = some b := by simpa [upd, h1] using hi
      have := hR.lt hi'
      simp [upd, h1, h2] at hij
      omega
    · have hi' : h i = some b := by simpa [upd, h1] using hi
      have hj' : h j = some c := by simpa [upd, h2] using hj
      simp [upd, h1, h2] at hij
      exact hR.inj i j b c hi' hj' hij
/-- A block is written, in place. -/
theorem Rel.write (hR : Rel w0 φ S h w) {id : Nat} {b b' : LB} (hib : h id = some b) (hver : b.ver ≤ b'.ver) (hesz : b'.ver = b.ver → b'.esz = b.esz)
    (ho : ∀ k, k ≠ φ id → w'.heap[k]? = w.heap[k]?) (hos : w'.os = w.os) (htp : w'.tape = w.tape) (hout : w'.output = w.output) (hsz : w'.heap.size = w.heap.size)
    {arr arr' : Array Value} {el : TypeId} {fz : Nat × Nat} (hw : w.heap[φ id]? = some (.cells arr el fz)) (hw' : w'.heap[φ id]? = some (.cells arr' el fz)) (hss : arr'.size = arr.size)
    (hl : b'.cells.length ≤ arr.size)
    (hc : ∀ (i : Nat) c v, b'.cells[i]? = some c → arr'[i]? = some v → Rep φ h S w c v ∧ v.oneCell' = true) :
    Rel w0 φ S (upd h id (some b')) w' ∧ Ext φ h S w φ (upd h id (some b')) S w' := by
  obtain ⟨l1, l2, arr0, el0, fz0, y1, y2, y3, y4⟩ := hR.blk _ _ hib
  rw [hw] at y1
  injection y1 with y1
  cases y1
  have hszo : szOf w' (φ id) = szOf w (φ id) := by rw [szOf_at hw, szOf_at hw', hss]
  have hext : Ext φ h S w φ (upd h id (some b')) S w' := by
    refine ⟨fun _ x => x, fun r hr => ho r (fun q => l2 (q ▸ hr)), fun j c hj => ?_⟩
    by_cases hji : j = id
    · subst hji
      rw [hib] at hj
      injection hj with hj
      subst hj
      exact ⟨b', by simp [upd], hver, fun hv => ⟨hesz hv, rfl, hszo⟩⟩
    · refine ⟨c, by simp [upd, hji, hj], Nat.le_refl _, fun _ => ⟨rfl, rfl, ?_⟩⟩
      have : φ j ≠ φ id := fun q => hji (hR.inj j id c b hj hib q)
      simp only [szOf, ho _ this]
  refine ⟨⟨?_, fun r hr => by rw [hsz]; exact hR.sin r hr, fun j c hj => ?_, fun i j c d hi hj hij => ?_⟩, hext⟩
  · refine hR.below.trans ⟨hos, htp, hout, by omega, fun k hk => ho k (by omega)⟩
  · by_cases hji : j = id
    · subst hji
      simp only [upd, if_true] at hj
      injection hj with hj
      subst hj
      refine ⟨l1, l2, arr', el, fz, hw', by omega, by rw [hss]; exact y3, fun i c v h1 h2 => ?_⟩
      obtain ⟨q1, q2⟩ := hc i c v h1 h2
      exact ⟨q1.ext hext, q2⟩
    · have hj' : h j = some c := by simpa [upd, hji] using hj
      obtain ⟨k1, k2, ar, e2, f2, z1, z2, z3, z4⟩ := hR.blk _ _ hj'
      have : φ j ≠ φ id := fun q => hji (hR.inj j id c b hj' hib q)
      refine ⟨k1, k2, ar, e2, f2, by rw [ho _ this]; exact z1, z2, z3, fun i x v h1 h2 => ?_⟩
      obtain ⟨q1, q2⟩ := z4 i x v h1 h2
      exact ⟨q1.ext hext, q2⟩
  · have hi' : ∃ c', h i = some c' := by
      by_cases q : i = id
      · subst q; exact ⟨b, hib⟩
      · exact ⟨c, by simpa [upd, q] using hi⟩
    have hj' : ∃ c', h j = some c' := by
      by_cases q : j = id
      · subst q; exact ⟨b, hib⟩
      · exact ⟨d, by simpa [upd, q] using hj⟩
    obtain ⟨c', hi'⟩ := hi'
    obtain ⟨d', hj'⟩ := hj'
    exact hR.inj i j c' d' hi' hj' hij
/-- A block is moved to a new place, as a newer one. -/
theorem Rel.move (hR : Rel w0 φ S h w) (hb : Below w.heap.size w w') {id g : Nat} {b0 b' : LB} (hib0 : h id = some b0) (hver : b0.ver < b'.ver) (hg : w.heap.size ≤ g) {arr : Array Value} {el : TypeId} {fz : Nat × Nat}
    (hw : w'.heap[g]? = some (.cells arr el fz)) (hl : b'.cells.length ≤ arr.size) (hz : fz.2 ≤ fz.1 ∨ arr.size ≤ fz.1)
    (hc : ∀ (i : Nat) c v, b'.cells[i]? = some c → arr[i]? = some v → Rep φ h S w c v ∧ v.oneCell' = true) :
    Rel w0 (upd φ id g) S (upd h id (some b')) w' ∧ Ext φ h S w (upd φ id g) (upd h id (some b')) S w' := by
  have hext : Ext φ h S w (upd φ id g) (upd h id (some b')) S w' := by
    refine ⟨fun _ x => x, fun r hr => hb.block r (hR.sin r hr), fun j b hj => ?_⟩
    by_cases hji : j = id
    · subst hji
      rw [hib0] at hj
      injection hj with hj
      subst hj
      exact ⟨b', by simp [upd], by omega, fun hv => by omega⟩
    · exact ⟨b, by simp [upd, hji, hj], Nat.le_refl _, fun _ => ⟨rfl, by simp [upd, hji], by simp only [szOf, hb.block _ (hR.lt hj)]⟩⟩
  refine ⟨⟨hR.below.trans (hb.mono hR.base), fun r hr => Nat.lt_of_lt_of_le (hR.sin r hr) hb.size, fun j b hj => ?_, fun i j b c hi hj hij => ?_⟩, hext⟩
  · by_cases hji : j = id
    · subst hji
      simp only [upd, if_true] at hj
      injection hj with hj
      subst hj
      refine ⟨by simp only [upd, if_true]; exact Nat.le_trans hR.base hg, ?_, arr, el, fz, by simpa [upd] using hw, hl, hz, fun i c v h1 h2 => ?_⟩
      · simp only [upd, if_true]
        intro hs
        have := hR.sin g hs
        omega
      · obtain ⟨q1, q2⟩ := hc i c v h1 h2
        exact ⟨q1.ext hext, q2⟩
    · have hj' : h j = some b := by simpa [upd, hji] using hj
      obtain ⟨l1, l2, arr', el', fz', z1, z2, z3, z4⟩ := hR.blk _ _ hj'
      have hφ : upd φ id g j = φ j := by simp [upd, hji]
      refine ⟨by rw [hφ]; exact l1, by rw [hφ]; exact l2, arr', el', fz', by rw [hφ, hb.block _ (hR.lt hj')]; exact z1, z2, z3, fun i c v h1 h2 => ?_⟩
      obtain ⟨q1, q2⟩ := z4 i c v h1 h2
      exact ⟨q1.ext hext, q2⟩
  · by_cases h1 : i = id <;> by_cases h2 : j = id
    · rw [h1, h2]
    · have hj' : h j = some c := by simpa [upd, h2] using hj
      have := hR.lt hj'
      simp [upd, h1, h2] at hij
      omega
    · have hi' : h i = some b := by simpa [upd, h1] using hi
      have := hR.lt hi'
      simp [upd, h1, h2] at hij
      omega
    · have hi' : h i = some b := by simpa [upd, h1] using hi
      have hj' : h j = some c := by simpa [upd, h2] using hj
      simp [upd, h1, h2] at hij
      exact hR.inj i j b c hi' hj' hij
def putArr : Array Value → Nat → List Value → Array Value
  | arr, _, [] => arr
  | arr, o, v :: r => putArr (arr.setIfInBounds o v) (o + 1) r
theorem putArr_size : ∀ (vs : List Value) (arr : Array Value) (o : Nat), (putArr arr o vs).size = arr.size
  | [], _, _ => rfl
  | v :: r, arr, o => by unfold putArr; rw [putArr_size r]; simp
theorem putArr_get : ∀ (vs : List Value) (arr : Array Value) (o i : Nat), o + vs.length ≤ arr.size → (putArr arr o vs)[i]? = if o ≤ i ∧ i < o + vs.length then vs[i - o]? else arr[i]?
  | [], arr, o, i, _ => by
    unfold putArr
    rw [if_neg (by simp only [List.length_nil]; omega)]
  | v :: r, arr, o, i, hle => by
    unfold putArr
    simp only [List.length_cons] at hle
    rw [putArr_get r _ _ _ (by simp; omega)]
    simp only [List.length_cons]
    by_cases h1 : o + 1 ≤ i ∧ i < o + 1 + r.length
    · rw [if_pos h1, if_pos (by omega)]
      have : i - o = (i - (o + 1)) + 1 := by omega
      rw [this, List.getElem?_cons_succ]
    · rw [if_neg h1]
      by_cases h2 : i = o
      · subst h2
        rw [if_pos (by omega), Nat.sub_self, Array.getElem?_setIfInBounds_self]
        rw [if_pos (by omega)]
        rfl
      · rw [if_neg (by omega), Array.getElem?_setIfInBounds_ne (by omega)]
theorem putL_len : ∀ (us cs : List V) (o : Nat), (putL cs o us).length = cs.length
  | [], _, _ => rfl
  | u :: r, cs, o => by unfold putL; rw [putL_len r]; simp
theorem putL_get : ∀ (us cs : List V) (o i : Nat), o + us.length ≤ cs.length → (putL cs o us)[i]? = if o ≤ i ∧ i < o + us.length then us[i - o]? else cs[i]?
  | [], cs, o, i, _ => by
    unfold putL
    rw [if_neg (by simp only [List.length_nil]; omega)]
  | v :: r, cs, o, i, hle => by
    unfold putL
    simp only [List.length_cons] at hle
    rw [putL_get r _ _ _ (by simp; omega)]
    simp only [List.length_cons]
    by_cases h1 : o + 1 ≤ i ∧ i < o + 1 + r.length
    · rw [if_pos h1, if_pos (by omega)]
      have : i - o = (i - (o + 1)) + 1 := by omega
      rw [this, List.getElem?_cons_succ]
    · rw [if_neg h1]
      by_cases h2 : i = o
      · subst h2
        rw [if_pos (by omega), Nat.sub_self, List.getElem?_set_self (by omega)]
        rfl
      · rw [if_neg (by omega), List.getElem?_set_ne (by omega)]
theorem setCells_self : ∀ (vs : List Value) (w : World) (r o : Nat) (arr : Array Value) (el : TypeId) (fz : Nat × Nat), w.heap[r]? = some (.cells arr el fz) →
    (w.setCells r o vs).heap[r]? = some (.cells (putArr arr o vs) el fz)
  | [], w, r, o, arr, el, fz, hw => hw
  | v :: l, w, r, o, arr, el, fz, hw => by
    unfold World.setCells putArr
    refine setCells_self l _ r (o + 1) _ el fz ?_
    simp [World.setCell, Array.getElem?_modify, hw]
theorem setCells_else : ∀ (vs : List Value) (w : World) (r o k : Nat), k ≠ r → (w.setCells r o vs).heap[k]? = w.heap[k]?
  | [], w, r, o, k, hk => rfl
  | v :: l, w, r, o, k, hk => by
    unfold World.setCells
    rw [setCells_else l _ r (o + 1) k hk, Below.heap_setCell _ _ _ _ hk]
theorem setCells_same : ∀ (vs : List Value) (w : World) (r o : Nat), (w.setCells r o vs).heap.size = w.heap.size ∧ (w.setCells r o vs).os = w.os ∧ (w.setCells r o vs).tape = w.tape ∧ (w.setCells r o vs).output = w.output
  | [], w, r, o => ⟨rfl, rfl, rfl, rfl⟩
  | v :: l, w, r, o => by
    unfold World.setCells
    obtain ⟨h1, h2, h3, h4⟩ := setCells_same l (w.setCell ⟨r, o, none⟩ v) r (o + 1)
    exact ⟨by rw [h1]; simp [World.setCell], h2, h3, h4⟩
theorem cell_heap {w w' : World} (h : w'.heap = w.heap) (p : Addr) : w'.cell? p = w.cell? p := by
  simp only [World.cell?, h]
/-- The cells of a slice's elements, in the world. -/
theorem elems_rep (hR : Rel w0 φ S h w) {esz : Nat} {v : V} {x : Value} (rx : Rep φ h S w v x) {n : Nat} {cs : List V} (he : elems h esz v = some (n, cs)) :
    (∃ a c, x = .slice a n c) ∧ cs.length = n * esz ∧ ∃ news : Array Value, (∀ w', w'.heap = w.heap → (Builtin.firstCells esz n x).run P w' = .ok news w') ∧ news.size = cs.length ∧
      ∀ (i : Nat) c u, cs[i]? = some c → news[i]? = some u → Rep φ h S w c u ∧ u.oneCell' = true := by
  have key : ∀ (b : Addr) (c : Nat) (vs : Array Value), b.spot = none → cs.length = n * esz → At w b.block b.off cs.length vs →
      (∀ w', w'.heap = w.heap → (Builtin.firstCells esz n (.slice (some b) n c)).run P w' = .ok vs w') ∧ vs.size = cs.length := by
    intro b c vs hb hl ⟨arr, el, fz, z1, z2, z3, z4⟩
    have hsz : vs.size = cs.length := by rw [z3]; simp; omega
    refine ⟨fun w' hw' => ?_, hsz⟩
    have := run_firstCells_some (P := P) w' esz n b n c vs.toList (by simp [hsz, hl]) (fun j u hu => by
      obtain ⟨b1, b2, b3⟩ := b
      simp only at hb
      subst hb
      have hj : j < vs.size := by simpa using (List.getElem?_eq_some_iff.1 hu).1
      rw [add_none, cell_heap hw', cell_at z1]
      rw [Array.getElem?_toList, z3, Array.getElem?_extract, if_pos (by omega)] at hu
      exact hu)
    rw [this, Array.toArray_toList]
  unfold elems at he
  split at he
  · injection he with he
    cases he
    cases rx
    exact ⟨⟨_, _, rfl⟩, by simp, #[], fun w' _ => run_firstCells_none _ _ _ _ _, rfl, fun i c u hc => by simp at hc⟩
  · split at he
    · rename_i hl
      injection he with he
      cases he
      cases rx
      · exact ⟨⟨_, _, rfl⟩, hl, #[], fun w' _ => run_firstCells_none _ _ _ _ _, rfl, fun i c u hc => by simp at hc⟩
      · rename_i b c vs q1 qp q2 q3
        by_cases hc0 : cs = []
        · subst hc0
          refine ⟨⟨_, _, rfl⟩, hl, #[], fun w' _ => ?_, rfl, fun i c u hc => by simp at hc⟩
          have := run_firstCells_some (P := P) w' esz n b n c [] hl (fun j u hu => by simp at hu)
          simpa using this
        · obtain ⟨p1, p2, p3⟩ := q2 hc0
          obtain ⟨k1, k2⟩ := key b c vs p1 hl p3
          refine ⟨⟨_, _, rfl⟩, hl, vs, k1, k2, fun i c u hc hu => ⟨q3 i c u hc hu, ?_⟩⟩
          obtain ⟨arr, el, fz, z1, z2, z3, z4⟩ := p3
          have hi := (List.getElem?_eq_some_iff.1 hc).1
          rw [z3, Array.getElem?_extract, if_pos (by omega)] at hu
          exact z4 i u hi hu
    · cases he
  · rename_i id ver off len cap
    split at he
    · rename_i bb hbb
      split at he
      · rename_i hq
        obtain ⟨e1, e2, e3⟩ := hq
        injection he with he
        injection he with hen hec
        subst hen
        subst hec
        cases rx
        rename_i b c hr
        obtain ⟨b1, q1, q2, q3⟩ := hr
        rw [hbb] at q1
        injection q1 with q1
        subst q1
        obtain ⟨oo, p1, p2, p3, p4, p5⟩ := q3 e1
        subst p1
        obtain ⟨l1, l2, arr, el, fz, z1, z2, z3, z4⟩ := hR.blk _ _ hbb
        have hll : (List.take (len * esz) (List.drop off bb.cells)).length = len * esz := by simp; omega
        refine ⟨⟨_, _, rfl⟩, hll, ?_⟩
        rw [hll] at key
        by_cases hn0 : len = 0
        · subst hn0
          refine ⟨#[], fun w' _ => ?_, by simp, fun i c u hc => by simp at hc⟩
          have := run_firstCells_some (P := P) w' esz 0 ⟨φ id, oo, none⟩ 0 c [] (by simp) (fun j u hu => by simp at hu)
          simpa using this
        · have hoo := p2 (by omega)
          subst hoo
          have hat : At w (φ id) oo (len * esz) (arr.extract oo (oo + len * esz)) := ⟨arr, el, fz, z1, by omega, rfl, fun i v hi hv => (z4 (oo + i) _ v (List.getElem?_eq_getElem (by omega)) hv).2⟩
          obtain ⟨k1, k2⟩ := key ⟨φ id, oo, none⟩ c (arr.extract oo (oo + len * esz)) rfl rfl hat
          · refine ⟨_, k1, by rw [k2, hll], fun i c u hc hu => ?_⟩
            rw [Array.getElem?_extract] at hu
            split at hu
            · rw [List.getElem?_take] at hc
              split at hc
              · rw [List.getElem?_drop] at hc
                exact z4 _ c u hc hu
              · cases hc
            · cases hu
      · cases he
    · cases he
  · cases he
theorem append_room {A : Array TypeId} {ts u ty e : TypeId} {i : TypeInfo} {d : TypeDesc} (hA0 : A[0]? = some ts) (hA1 : A[1]? = some u) (hts : P.underlying ts = some (.slice e)) (hu : P.underlying u = some d) (hd : ∀ k, d ≠ .int k) (hi : P.info? e = some i)
    (b off sLen sCap n : Nat) (x : Value) (news : Array Value) (hlen : (Builtin.lenOf x).run P w = .ok n w) (hfc : (Builtin.firstCells i.size n x).run P w = .ok news w)
    (hroom : sLen + n ≤ sCap) {arr : Array Value} {el : TypeId} {fz : Nat × Nat} (hw : w.heap[b]? = some (.cells arr el fz)) (hz : fz.2 ≤ fz.1 ∨ arr.size ≤ fz.1) (hle : off + sLen * i.size + news.size ≤ arr.size)
    (h1 : ∀ (j : Nat) v, news[j]? = some v → v.oneCell' = true) :
    (Builtin.append_ A ty #[.slice (some ⟨b, off, none⟩) sLen sCap, x]).run P w = .ok (.slice (some ⟨b, off, none⟩) (sLen + n) sCap) (w.setCells b (off + sLen * i.size) news.toList) := by
  have hst := run_storeCells_cells (P := P) b (off + sLen * i.size) news.toList 0 w (fun j hj => by
      rw [cell_at hw]; simp at hj; rw [Array.getElem?_eq_getElem (by omega)]; rfl) (fun j hj => by simp at hj; exact frozen_at hw hz (by omega)) (fun v hv => by
      obtain ⟨j, hj⟩ := List.getElem?_of_mem hv
      exact h1 j v (by simpa using hj))
  simp only [Nat.add_zero] at hst
  have hm : (match d with | .int _ => true | _ => false) = false := by cases d <;> first | rfl | exact absurd rfl (hd _)
  simp [Builtin.append_, hA0, hA1, run_underlying hts, run_underlying hu, sizeOf, typeInfo, hi, hlen, hroom, hfc, add_none, hst, hm]
theorem append_grow {A : Array TypeId} {ts u ty e : TypeId} {i : TypeInfo} {z : Value} {d : TypeDesc} (hA0 : A[0]? = some ts) (hA1 : A[1]? = some u) (hts : P.underlying ts = some (.slice e)) (hu : P.underlying u = some d) (hd : ∀ k, d ≠ .int k) (hi : P.info? e = some i) (hz : i.zero = some z)
    (sa : Option Addr) (sLen sCap n : Nat) (x : Value) (olds news : Array Value) (hlen : (Builtin.lenOf x).run P w = .ok n w)
    (hfo : (Builtin.firstCells i.size sLen (.slice sa sLen sCap)).run P w.drew = .ok olds w.drew) (hfc : (Builtin.firstCells i.size n x).run P w.drew = .ok news w.drew)
    (hg : sCap < sLen + n) (h63 : ((sLen + n : Nat) : Int) ≤ 9223372036854775807) (hfit : Builtin.nextslicecap (sLen + n) sCap * i.bytes ≤ 281474976710656) (hby : 0 < i.bytes) :
    (Builtin.append_ A ty #[.slice sa sLen sCap, x]).run P w = .ok (.slice (some ⟨w.heap.size, 0, none⟩) (sLen + n) (grownCap w (sLen + n) sCap e))
        (w.drew.alloc (.cells (olds ++ news ++ Builtin.zeroCells z.cells (grownCap w (sLen + n) sCap e - (sLen + n))) e)) := by
  have hn : ¬ (sLen + n ≤ sCap) := by omega
  have h63' : ¬ (9223372036854775807 < ((sLen : Int) + (n : Int))) := by omega
  have h48' : ¬ (281474976710656 < Builtin.nextslicecap (sLen + n) sCap * i.bytes) := by omega
  have hb0 : i.bytes ≠ 0 := by omega
  have hm : (match d with | .int _ => true | _ => false) = false := by cases d <;> first | rfl | exact absurd rfl (hd _)
  simp [Builtin.append_, hA0, hA1, run_underlying hts, run_underlying hu, sizeOf, typeInfo, zeroValue, hi, hz, hlen, hn, h63', h48', hb0, Question.forced, hfc, hfo, newRow, grownCap, hm]
variable {r : R} {nx : Nat} (hR : Rel w0 φ S h w) (ht : ∀ n, Rep φ h S w (t n) (a.tmps.getD n undef))
include hR ht
theorem s_ld {ty : TypeId} {x : Operand} {sz : Option Nat} {x' : X} (ho : o.op = .load ty x) (hs : ldT P ty = some sz) (hx : compX x = some x')
    (e : opA (.ld x' sz) (X.ev t) h nx = some r) : Sound P o a w w0 φ S h r := by
  unfold opA at e
  simp only at e
  have rx := evRep ht hx
  generalize hvx : a.eval x = vx at rx
  split at e
  · rename_i cs off hv
    obtain ⟨p, q, arr, el, fz, rfl, z1, z2, z3⟩ := view_rep hR rx hv
    rcases ldT_cases hs with ⟨rfl, h1, h2⟩ | ⟨n, rfl, h1, h2⟩
    · simp only at e
      rw [Option.map_eq_some_iff] at e
      obtain ⟨c, hc, rfl⟩ := e
      have hi := (List.getElem?_eq_some_iff.1 hc).1
      have hu : arr[q + off]? = some arr[q + off] := Array.getElem?_eq_getElem (by omega)
      refine ⟨arr[q + off], w, φ, .inl ?_, hR, .refl, (z3 off c _ hc hu).1⟩
      simp [execOp, ho, hvx, Instr.loadAt, Instr.sureAddr, loadVar, run_isAgg' h1, cell_at z1, hu]
    · simp only at e
      split at e
      · rename_i hle
        injection e with e
        subst e
        refine ⟨.agg (arr.extract (q + off) (q + off + n)), w, φ, .inl ?_, hR, .refl, ?_⟩
        · simp only [execOp, ho, hvx, Instr.loadAt, Instr.sureAddr]
          simp only [Sem.run_bind, Sem.run_pure, Result.andThen_ok]
          rw [run_loadAgg z1 (by omega) h1 h2]
          rfl
        · refine .agg _ _ (by simp; omega) (fun i v hv => ?_) (fun i c v hc hv => ?_)
          · rw [Array.getElem?_extract] at hv
            split at hv
            · have hi : off + i < cs.length := by omega
              rw [Nat.add_assoc] at hv
              exact (z3 (off + i) _ v (List.getElem?_eq_getElem hi) hv).2
            · cases hv
          · rw [Array.getElem?_extract] at hv
            split at hv
            · rw [List.getElem?_take] at hc
              split at hc
              · rw [List.getElem?_drop] at hc
                rw [Nat.add_assoc] at hv
                exact (z3 (off + i) c v hc hv).1
              · cases hc
            · cases hv
      · cases e
  · cases e
end
end Go.Ex
