/- The small operations that read blocks, make blocks and write into them. -/
import Derived.Test.YtaegjihmpgdfcaaExD
import Derived.Laws.Append
import Derived.MapKept
import Derived.Lib.ConvBytes
set_option linter.unusedVariables false
set_option linter.unusedSimpArgs false
namespace Go.Ex
open Go.RowKit
section
variable {φ : Nat → Nat × Nat} {h : Hp} {S : Nat → Prop} {w w0 : World} {P : Program} {a : Act} {o : Oper} {t : Nat → V} {sh : Nat → Bool}
/-- What a reference reads, in the world. -/
theorem view_rep (hR : Rel P w0 φ S h w) {v : V} {x : Value} (rx : Rep φ h S w v x) {cs : List V} {off : Nat} (hv : view h v = some (cs, off)) :
    ∃ r o arr elem fz, x = .pointer (some ⟨r, o + off, none⟩) ∧ w.heap[r]? = some (.cells arr elem fz) ∧ o + cs.length ≤ arr.size ∧
      ∀ i c u, cs[i]? = some c → arr[o + i]? = some u → Rep φ h S w c u ∧ u.oneCell' = true := by
  unfold view at hv
  split at hv
  · injection hv with hv
    cases hv
    cases rx
    rename_i p q vs qp q1 q2 q3
    obtain ⟨arr, el, fz, z1, z2, z3, z4⟩ := q2
    refine ⟨p, q, arr, el, fz, rfl, z1, z2, fun i c u hc hu => ⟨q3 i c u hc ?_, z4 i u ?_ hu⟩⟩
    · have hi : i < cs.length := (List.getElem?_eq_some_iff.1 hc).1
      rw [z3, Array.getElem?_extract, if_pos (by omega)]
      exact hu
    · exact (List.getElem?_eq_some_iff.1 hc).1
  · split at hv
    · rename_i bb hbb
      split at hv
      · rename_i he
        injection hv with hv
        cases hv
        cases rx
        rename_i b hb
        obtain ⟨b1, q1, q2, q3⟩ := hb
        rw [hbb] at q1
        injection q1 with q1
        subst q1
        have := q3 he.1
        subst this
        obtain ⟨arr, el, fz, z1, z2, z3, z4⟩ := (hR.blk _ _ hbb).at_ he.2
        exact ⟨_, _, arr, el, fz, rfl, z1, z2, fun i c u hc hu => z4 i c u hc hu⟩
      · cases hv
    · cases hv
  · cases hv
theorem cell_at {r o : Nat} {arr : Array Value} {elem : TypeId} {fz : Nat × Nat} (hw : w.heap[r]? = some (.cells arr elem fz)) : w.cell? ⟨r, o, none⟩ = arr[o]? := by
  simp [World.cell?, hw]
theorem frozen_at {r o : Nat} {arr : Array Value} {elem : TypeId} {fz : Nat × Nat} (hw : w.heap[r]? = some (.cells arr elem fz)) {q : Prop} (hz : fz.1 = fz.2 ∨ (arr.size ≤ fz.1 ∧ q)) (ho : o < arr.size) : w.frozen? ⟨r, o, none⟩ = false := by
  obtain ⟨lo, hi⟩ := fz
  simp only [World.frozen?, hw]
  have hz := hz.imp_right And.left
  simp only at hz
  rw [Bool.and_eq_false_iff]
  by_cases hlo : lo ≤ o
  · right; simp; omega
  · left; simpa using hlo
theorem run_loadAgg {ty : TypeId} {n r o : Nat} {arr : Array Value} {elem : TypeId} {fz : Nat × Nat} (hw : w.heap[r]? = some (.cells arr elem fz)) (hle : o + n ≤ arr.size)
    (ha : aggT P ty = some true) (hs : szT P ty = some n) : (loadVar ty ⟨r, o, none⟩).run P w = .ok (.agg (arr.extract o (o + n))) w := by
  have := run_loadCells_list (P := P) (w := w) ⟨r, o, none⟩ (arr.extract o (o + n)).toList (fun j v hv => by
    rw [add_none, cell_at hw]
    have hj := (List.getElem?_eq_some_iff.1 hv).1
    rw [Array.getElem?_toList, Array.getElem?_extract] at hv
    split at hv
    · exact hv
    · cases hv)
  have hl : (arr.extract o (o + n)).toList.length = n := by simp; omega
  rw [hl] at this
  rw [Array.toArray_toList] at this
  simp [loadVar, run_isAgg' ha, run_sizeOf' hs, this]
theorem ldT_cases {ty : TypeId} {sz : Option Nat} (e : ldT P ty = some sz) : (sz = none ∧ aggT P ty = some false ∧ szT P ty = some 1) ∨ ∃ n, sz = some n ∧ aggT P ty = some true ∧ szT P ty = some n := by
  unfold ldT at e
  split at e
  · injection e with e; exact .inr ⟨_, e.symm, by assumption, by assumption⟩
  · injection e with e; exact .inl ⟨e.symm, by assumption, by assumption⟩
  · cases e
theorem szOf_at {r : Nat} {arr : Array Value} {elem : TypeId} {fz : Nat × Nat} (hw : w.heap[r]? = some (.cells arr elem fz)) : szOf w r = arr.size := by
  simp [szOf, hw]
theorem lt_of_at {r : Nat} {o : Obj} (hw : w.heap[r]? = some o) : r < w.heap.size := (Array.getElem?_eq_some_iff.1 hw).1
variable {w' : World}
theorem Rel.lt (hR : Rel P w0 φ S h w) {id : Nat} {b : LB} (hb : h id = some b) : (φ id).1 < w.heap.size := (hR.blk _ _ hb).lt
/-- A block that nobody touches. -/
theorem Blk.keep {base id : Nat} {b : LB} (k : Blk φ h S w base id b) {φ' : Nat → Nat × Nat} {h' : Hp} {S' : Nat → Prop} (he : Ext φ h S w φ' h' S' w') (hφ : φ' id = φ id) (hs : ¬ S' (φ id).1) (hsz : w.heap.size ≤ w'.heap.size) (hk : w'.heap[(φ id).1]? = w.heap[(φ id).1]?) :
    Blk φ' h' S' w' base id b := by
  obtain ⟨l1, l2, l3, l4, l5⟩ := k
  refine ⟨by rw [hφ]; exact l1, by rw [hφ]; exact hs, by rw [hφ]; omega, fun hm => ?_, fun l hl => ?_⟩
  · obtain ⟨arr, el, fz, z1, z2, z3, z4⟩ := l4 hm
    exact ⟨arr, el, fz, by rw [hφ, hk]; exact z1, by rw [hφ]; exact z2, z3, fun i c v h1 h2 => by
      rw [hφ] at h2
      exact ⟨(z4 i c v h1 h2).1.ext he, (z4 i c v h1 h2).2⟩⟩
  · obtain ⟨es, clk, z1, z2, z3⟩ := l5 l hl
    exact ⟨es, clk, by rw [hφ, hk]; exact z1, z2, fun i c e h1 h2 => ⟨(z3 i c e h1 h2).1.ext he, (z3 i c e h1 h2).2.ext he⟩⟩
theorem Rel.base (hR : Rel P w0 φ S h w) : w0.heap.size ≤ w.heap.size := hR.below.size
/-- A new block. -/
theorem Rel.new' (hR : Rel P w0 φ S h w) (hb : Below w.heap.size w w') {nx g : Nat} (hf : h nx = none) (hg : w.heap.size ≤ g) (hg' : g < w'.heap.size) {b0 : LB}
    (hat : ∀ φ' h', Ext φ h S w φ' h' S w' → b0.mp = none → ∃ arr el fz, w'.heap[g]? = some (.cells arr el fz) ∧ 0 + b0.cells.length ≤ arr.size ∧ (fz.1 = fz.2 ∨ (arr.size ≤ fz.1 ∧ b0.esz = 1)) ∧
      ∀ (i : Nat) c v, b0.cells[i]? = some c → arr[0 + i]? = some v → Rep φ' h' S w' c v ∧ v.oneCell' = true)
    (hmp : ∀ φ' h', Ext φ h S w φ' h' S w' → ∀ l, b0.mp = some l → ∃ es clk, w'.heap[g]? = some (.map es clk) ∧ es.size = l.length ∧ ∀ (i : Nat) c e, l[i]? = some c → es[i]? = some e → Rep φ' h' S w' c.1 e.key ∧ Rep φ' h' S w' c.2 e.val) :
    Rel P w0 (upd φ nx (g, 0)) S (upd h nx (some b0)) w' ∧ Ext φ h S w (upd φ nx (g, 0)) (upd h nx (some b0)) S w' := by
  have hext : Ext φ h S w (upd φ nx (g, 0)) (upd h nx (some b0)) S w' := by
    refine ⟨fun _ x => x, fun r hr => hb.block r (hR.sin r hr), fun id b hib => ⟨b, ?_, Nat.le_refl _, fun _ => ⟨rfl, ?_, ?_⟩⟩⟩
    · have : id ≠ nx := fun q => by rw [q, hf] at hib; cases hib
      simp [upd, this, hib]
    · have : id ≠ nx := fun q => by rw [q, hf] at hib; cases hib
      simp [upd, this]
    · simp only [szOf, hb.block _ (hR.lt hib)]
  refine ⟨⟨?_, hR.gl, fun r hr => Nat.lt_of_lt_of_le (hR.sin r hr) hb.size, fun id b hib => ?_, fun i j b c hi hj hij => ?_⟩, hext⟩
  · exact hR.below.trans (hb.mono hR.base)
  · by_cases hid : id = nx
    · subst hid
      simp only [upd, if_true] at hib
      injection hib with hib
      subst hib
      have hu : upd φ id (g, 0) id = (g, 0) := by simp [upd]
      refine ⟨by rw [hu]; exact Nat.le_trans hR.base hg, ?_, by rw [hu]; exact hg', fun hm => ?_, fun l hl => ?_⟩
      · rw [hu]
        intro hs
        have := hR.sin g hs
        omega
      · rw [hu]; exact hat _ _ hext hm
      · rw [hu]; exact hmp _ _ hext l hl
    · have hib' : h id = some b := by simpa [upd, hid] using hib
      have hφ : upd φ nx (g, 0) id = φ id := by simp [upd, hid]
      exact (hR.blk _ _ hib').keep hext hφ (hR.blk _ _ hib').out hb.size (hb.block _ (hR.lt hib'))
  · by_cases h1 : i = nx <;> by_cases h2 : j = nx
    · rw [h1, h2]
    · have hj' : h j = some c := by simpa [upd, h2] using hj
      have := hR.lt hj'
      simp [upd, h1, h2] at hij
      omega
    · have hi' : h i = some b := by simpa [upd, h1] using hi
      have := hR.lt hi'
      simp [upd, h1, h2] at hij
      omega
    · have hi' : h i = some b := by simpa [upd, h1] using hi
      have hj' : h j = some c := by simpa [upd, h2] using hj
      simp [upd, h1, h2] at hij
      exact hR.inj i j b c hi' hj' hij
theorem Rel.new (hR : Rel P w0 φ S h w) (hb : Below w.heap.size w w') {nx g : Nat} (hf : h nx = none) (hg : w.heap.size ≤ g) {arr : Array Value} {el : TypeId} {fz : Nat × Nat}
    (hw : w'.heap[g]? = some (.cells arr el fz)) {cells : List V} (hl : cells.length ≤ arr.size) {esz0 : Nat} (hz : fz.1 = fz.2 ∨ (arr.size ≤ fz.1 ∧ esz0 = 1))
    (hc : ∀ (i : Nat) c v, cells[i]? = some c → arr[i]? = some v → Rep φ h S w c v ∧ v.oneCell' = true) (esz : Nat) (hee : esz0 = esz := by rfl) :
    Rel P w0 (upd φ nx (g, 0)) S (upd h nx (some ⟨0, esz, cells, none⟩)) w' ∧ Ext φ h S w (upd φ nx (g, 0)) (upd h nx (some ⟨0, esz, cells, none⟩)) S w' :=
  hR.new' hb hf hg (lt_of_at hw) (fun φ' h' he _ => ⟨arr, el, fz, hw, by simpa using hl, hee ▸ hz, fun i c v h1 h2 => by
    obtain ⟨q1, q2⟩ := hc i c v h1 (by simpa using h2)
    exact ⟨q1.ext he, q2⟩⟩) fun φ' h' _ l hl => by cases hl
/-- A block is written, in place. -/
theorem Rel.write' (hR : Rel P w0 φ S h w) {id : Nat} {b b' : LB} (hib : h id = some b) (hver : b.ver ≤ b'.ver) (hesz : b'.ver = b.ver → b'.esz = b.esz)
    (ho : ∀ k, k ≠ (φ id).1 → w'.heap[k]? = w.heap[k]?) (hos : w'.os = w.os) (htp : w'.tape = w.tape) (hout : w'.output = w.output) (hsz : w'.heap.size = w.heap.size)
    (hszo : szOf w' (φ id).1 = szOf w (φ id).1)
    (hat : ∀ h', Ext φ h S w φ h' S w' → b'.mp = none → ∃ arr el fz, w'.heap[(φ id).1]? = some (.cells arr el fz) ∧ (φ id).2 + b'.cells.length ≤ arr.size ∧ (fz.1 = fz.2 ∨ (arr.size ≤ fz.1 ∧ b'.esz = 1)) ∧
      ∀ (i : Nat) c v, b'.cells[i]? = some c → arr[(φ id).2 + i]? = some v → Rep φ h' S w' c v ∧ v.oneCell' = true)
    (hmp : ∀ h', Ext φ h S w φ h' S w' → ∀ l, b'.mp = some l → ∃ es clk, w'.heap[(φ id).1]? = some (.map es clk) ∧ es.size = l.length ∧ ∀ (i : Nat) c e, l[i]? = some c → es[i]? = some e → Rep φ h' S w' c.1 e.key ∧ Rep φ h' S w' c.2 e.val) :
    Rel P w0 φ S (upd h id (some b')) w' ∧ Ext φ h S w φ (upd h id (some b')) S w' := by
  obtain ⟨l1, l2, l3, -, -⟩ := hR.blk _ _ hib
  have hext : Ext φ h S w φ (upd h id (some b')) S w' := by
    refine ⟨fun _ x => x, fun r hr => ho r (fun q => l2 (q ▸ hr)), fun j c hj => ?_⟩
    by_cases hji : j = id
    · subst hji
      rw [hib] at hj
      injection hj with hj
      subst hj
      exact ⟨b', by simp [upd], hver, fun hv => ⟨hesz hv, rfl, hszo⟩⟩
    · refine ⟨c, by simp [upd, hji, hj], Nat.le_refl _, fun _ => ⟨rfl, rfl, ?_⟩⟩
      have : (φ j).1 ≠ (φ id).1 := fun q => hji (hR.inj j id c b hj hib q)
      simp only [szOf, ho _ this]
  refine ⟨⟨?_, hR.gl, fun r hr => by rw [hsz]; exact hR.sin r hr, fun j c hj => ?_, fun i j c d hi hj hij => ?_⟩, hext⟩
  · refine hR.below.trans ⟨hos, htp, hout, by omega, fun k hk => ho k (by omega)⟩
  · by_cases hji : j = id
    · subst hji
      simp only [upd, if_true] at hj
      injection hj with hj
      subst hj
      exact ⟨l1, l2, by omega, hat _ hext, hmp _ hext⟩
    · have hj' : h j = some c := by simpa [upd, hji] using hj
      have : (φ j).1 ≠ (φ id).1 := fun q => hji (hR.inj j id c b hj' hib q)
      exact (hR.blk _ _ hj').keep hext rfl (hR.blk _ _ hj').out (by omega) (ho _ this)
  · have hi' : ∃ c', h i = some c' := by
      by_cases q : i = id
      · subst q; exact ⟨b, hib⟩
      · exact ⟨c, by simpa [upd, q] using hi⟩
    have hj' : ∃ c', h j = some c' := by
      by_cases q : j = id
      · subst q; exact ⟨b, hib⟩
      · exact ⟨d, by simpa [upd, q] using hj⟩
    obtain ⟨c', hi'⟩ := hi'
    obtain ⟨d', hj'⟩ := hj'
    exact hR.inj i j c' d' hi' hj' hij
theorem Rel.write (hR : Rel P w0 φ S h w) {id : Nat} {b b' : LB} (hib : h id = some b) (hver : b.ver ≤ b'.ver) (hesz : b'.ver = b.ver → b'.esz = b.esz) (hm : b'.mp = none)
    (ho : ∀ k, k ≠ (φ id).1 → w'.heap[k]? = w.heap[k]?) (hos : w'.os = w.os) (htp : w'.tape = w.tape) (hout : w'.output = w.output) (hsz : w'.heap.size = w.heap.size)
    {arr arr' : Array Value} {el : TypeId} {fz : Nat × Nat} (hw : w.heap[(φ id).1]? = some (.cells arr el fz)) (hw' : w'.heap[(φ id).1]? = some (.cells arr' el fz)) (hss : arr'.size = arr.size) (hfz : fz.1 = fz.2 ∨ (arr.size ≤ fz.1 ∧ b'.esz = 1))
    (hl : (φ id).2 + b'.cells.length ≤ arr.size)
    (hc : ∀ (i : Nat) c v, b'.cells[i]? = some c → arr'[(φ id).2 + i]? = some v → Rep φ h S w c v ∧ v.oneCell' = true) :
    Rel P w0 φ S (upd h id (some b')) w' ∧ Ext φ h S w φ (upd h id (some b')) S w' :=
  hR.write' hib hver hesz ho hos htp hout hsz (by rw [szOf_at hw, szOf_at hw', hss]) (fun h' he _ => ⟨arr', el, fz, hw', by omega, by rw [hss]; exact hfz, fun i c v h1 h2 => ⟨(hc i c v h1 h2).1.ext he, (hc i c v h1 h2).2⟩⟩)
    fun h' _ l hl => by rw [hm] at hl; cases hl
/-- A block gets a new place, as a newer one: there (g: its place; o: where it begins). Where it was nobody looks any more. -/
theorem Rel.move (hR : Rel P w0 φ S h w) {id g o : Nat} {b0 b' : LB} (hib0 : h id = some b0) (hver : b0.ver < b'.ver) (hm : b'.mp = none)
    (ho : ∀ k, k < w.heap.size → k ≠ (φ id).1 → w'.heap[k]? = w.heap[k]?) (hos : w'.os = w.os) (htp : w'.tape = w.tape) (hout : w'.output = w.output) (hsz : w.heap.size ≤ w'.heap.size)
    (hg : w.heap.size ≤ g ∨ g = (φ id).1) {arr : Array Value} {el : TypeId} {fz : Nat × Nat}
    (hw : w'.heap[g]? = some (.cells arr el fz)) (hl : o + b'.cells.length ≤ arr.size) (hz : fz.1 = fz.2 ∨ (arr.size ≤ fz.1 ∧ b'.esz = 1))
    (hc : ∀ (i : Nat) c v, b'.cells[i]? = some c → arr[o + i]? = some v → Rep φ h S w c v ∧ v.oneCell' = true) :
    Rel P w0 (upd φ id (g, o)) S (upd h id (some b')) w' ∧ Ext φ h S w (upd φ id (g, o)) (upd h id (some b')) S w' := by
  obtain ⟨l1, l2, l3, -, -⟩ := hR.blk _ _ hib0
  have hext : Ext φ h S w (upd φ id (g, o)) (upd h id (some b')) S w' := by
    refine ⟨fun _ x => x, fun r hr => ho r (hR.sin r hr) (fun q => l2 (q ▸ hr)), fun j b hj => ?_⟩
    by_cases hji : j = id
    · subst hji
      rw [hib0] at hj
      injection hj with hj
      subst hj
      exact ⟨b', by simp [upd], by omega, fun hv => by omega⟩
    · have : (φ j).1 ≠ (φ id).1 := fun q => hji (hR.inj j id b b0 hj hib0 q)
      exact ⟨b, by simp [upd, hji, hj], Nat.le_refl _, fun _ => ⟨rfl, by simp [upd, hji], by simp only [szOf, ho _ (hR.lt hj) this]⟩⟩
  have hgs : ∀ j b, j ≠ id → h j = some b → g ≠ (φ j).1 := fun j b hji hj q => by
    rcases hg with hg | hg
    · have := hR.lt hj; omega
    · exact hji (hR.inj j id b b0 hj hib0 (by rw [← q, hg]))
  refine ⟨⟨hR.below.trans ⟨hos, htp, hout, hsz, fun k hk => ho k (by have := hR.base; omega) (by omega)⟩, hR.gl, fun r hr => Nat.lt_of_lt_of_le (hR.sin r hr) hsz, fun j b hj => ?_, fun i j b c hi hj hij => ?_⟩, hext⟩
  · by_cases hji : j = id
    · subst hji
      simp only [upd, if_true] at hj
      injection hj with hj
      subst hj
      have hu : upd φ j (g, o) j = (g, o) := by simp [upd]
      refine ⟨?_, ?_, by rw [hu]; exact lt_of_at hw, fun _ => ?_, fun l hl => by rw [hm] at hl; cases hl⟩
      · rw [hu]
        rcases hg with hg | hg
        · exact Nat.le_trans hR.base hg
        · simp only [hg]; exact l1
      · rw [hu]
        intro hs
        rcases hg with hg | hg
        · have := hR.sin g hs
          omega
        · exact l2 (hg ▸ hs)
      · rw [hu]
        exact ⟨arr, el, fz, hw, hl, hz, fun i c v h1 h2 => ⟨(hc i c v h1 h2).1.ext hext, (hc i c v h1 h2).2⟩⟩
    · have hj' : h j = some b := by simpa [upd, hji] using hj
      have hφ : upd φ id (g, o) j = φ j := by simp [upd, hji]
      have : (φ j).1 ≠ (φ id).1 := fun q => hji (hR.inj j id b b0 hj' hib0 q)
      exact (hR.blk _ _ hj').keep hext hφ (hR.blk _ _ hj').out hsz (ho _ (hR.lt hj') this)
  · by_cases h1 : i = id <;> by_cases h2 : j = id
    · rw [h1, h2]
    · have hj' : h j = some c := by simpa [upd, h2] using hj
      simp [upd, h1, h2] at hij
      exact absurd hij (hgs j c h2 hj')
    · have hi' : h i = some b := by simpa [upd, h1] using hi
      simp [upd, h1, h2] at hij
      exact absurd hij.symm (hgs i b h1 hi')
    · have hi' : h i = some b := by simpa [upd, h1] using hi
      have hj' : h j = some c := by simpa [upd, h2] using hj
      simp [upd, h1, h2] at hij
      exact hR.inj i j b c hi' hj' hij
def putArr : Array Value → Nat → List Value → Array Value
  | arr, _, [] => arr
  | arr, o, v :: r => putArr (arr.setIfInBounds o v) (o + 1) r
theorem putArr_size : ∀ (vs : List Value) (arr : Array Value) (o : Nat), (putArr arr o vs).size = arr.size
  | [], _, _ => rfl
  | v :: r, arr, o => by unfold putArr; rw [putArr_size r]; simp
theorem putArr_get : ∀ (vs : List Value) (arr : Array Value) (o i : Nat), o + vs.length ≤ arr.size → (putArr arr o vs)[i]? = if o ≤ i ∧ i < o + vs.length then vs[i - o]? else arr[i]?
  | [], arr, o, i, _ => by
    unfold putArr
    rw [if_neg (by simp only [List.length_nil]; omega)]
  | v :: r, arr, o, i, hle => by
    unfold putArr
    simp only [List.length_cons] at hle
    rw [putArr_get r _ _ _ (by simp; omega)]
    simp only [List.length_cons]
    by_cases h1 : o + 1 ≤ i ∧ i < o + 1 + r.length
    · rw [if_pos h1, if_pos (by omega)]
      have : i - o = (i - (o + 1)) + 1 := by omega
      rw [this, List.getElem?_cons_succ]
    · rw [if_neg h1]
      by_cases h2 : i = o
      · subst h2
        rw [if_pos (by omega), Nat.sub_self, Array.getElem?_setIfInBounds_self]
        rw [if_pos (by omega)]
        rfl
      · rw [if_neg (by omega), Array.getElem?_setIfInBounds_ne (by omega)]
theorem putL_len : ∀ (us cs : List V) (o : Nat), (putL cs o us).length = cs.length
  | [], _, _ => rfl
  | u :: r, cs, o => by unfold putL; rw [putL_len r]; simp
theorem putL_get : ∀ (us cs : List V) (o i : Nat), o + us.length ≤ cs.length → (putL cs o us)[i]? = if o ≤ i ∧ i < o + us.length then us[i - o]? else cs[i]?
  | [], cs, o, i, _ => by
    unfold putL
    rw [if_neg (by simp only [List.length_nil]; omega)]
  | v :: r, cs, o, i, hle => by
    unfold putL
    simp only [List.length_cons] at hle
    rw [putL_get r _ _ _ (by simp; omega)]
    simp only [List.length_cons]
    by_cases h1 : o + 1 ≤ i ∧ i < o + 1 + r.length
    · rw [if_pos h1, if_pos (by omega)]
      have : i - o = (i - (o + 1)) + 1 := by omega
      rw [this, List.getElem?_cons_succ]
    · rw [if_neg h1]
      by_cases h2 : i = o
      · subst h2
        rw [if_pos (by omega), Nat.sub_self, List.getElem?_set_self (by omega)]
        rfl
      · rw [if_neg (by omega), List.getElem?_set_ne (by omega)]
theorem setCells_self : ∀ (vs : List Value) (w : World) (r o : Nat) (arr : Array Value) (el : TypeId) (fz : Nat × Nat), w.heap[r]? = some (.cells arr el fz) →
    (w.setCells r o vs).heap[r]? = some (.cells (putArr arr o vs) el fz)
  | [], w, r, o, arr, el, fz, hw => hw
  | v :: l, w, r, o, arr, el, fz, hw => by
    unfold World.setCells putArr
    refine setCells_self l _ r (o + 1) _ el fz ?_
    simp [World.setCell, Array.getElem?_modify, hw]
theorem setCells_else : ∀ (vs : List Value) (w : World) (r o k : Nat), k ≠ r → (w.setCells r o vs).heap[k]? = w.heap[k]?
  | [], w, r, o, k, hk => rfl
  | v :: l, w, r, o, k, hk => by
    unfold World.setCells
    rw [setCells_else l _ r (o + 1) k hk, Below.heap_setCell _ _ _ _ hk]
theorem setCells_same : ∀ (vs : List Value) (w : World) (r o : Nat), (w.setCells r o vs).heap.size = w.heap.size ∧ (w.setCells r o vs).os = w.os ∧ (w.setCells r o vs).tape = w.tape ∧ (w.setCells r o vs).output = w.output
  | [], w, r, o => ⟨rfl, rfl, rfl, rfl⟩
  | v :: l, w, r, o => by
    unfold World.setCells
    obtain ⟨h1, h2, h3, h4⟩ := setCells_same l (w.setCell ⟨r, o, none⟩ v) r (o + 1)
    exact ⟨by rw [h1]; simp [World.setCell], h2, h3, h4⟩
theorem cell_heap {w w' : World} (h : w'.heap = w.heap) (p : Addr) : w'.cell? p = w.cell? p := by
  simp only [World.cell?, h]
/-- The cells of a slice's elements, in the world. -/
theorem elems_rep (hR : Rel P w0 φ S h w) {esz : Nat} {v : V} {x : Value} (rx : Rep φ h S w v x) {n : Nat} {cs : List V} (he : elems h esz v = some (n, cs)) :
    (∃ a c, x = .slice a n c) ∧ cs.length = n * esz ∧ ∃ news : Array Value, (∀ w', w'.heap = w.heap → (Builtin.firstCells esz n x).run P w' = .ok news w') ∧ news.size = cs.length ∧
      ∀ (i : Nat) c u, cs[i]? = some c → news[i]? = some u → Rep φ h S w c u ∧ u.oneCell' = true := by
  have key : ∀ (b : Addr) (c : Nat) (vs : Array Value), b.spot = none → cs.length = n * esz → At w b.block b.off cs.length vs →
      (∀ w', w'.heap = w.heap → (Builtin.firstCells esz n (.slice (some b) n c)).run P w' = .ok vs w') ∧ vs.size = cs.length := by
    intro b c vs hb hl ⟨arr, el, fz, z1, z2, z3, z4⟩
    have hsz : vs.size = cs.length := by rw [z3]; simp; omega
    refine ⟨fun w' hw' => ?_, hsz⟩
    have := run_firstCells_some (P := P) w' esz n b n c vs.toList (by simp [hsz, hl]) (fun j u hu => by
      obtain ⟨b1, b2, b3⟩ := b
      simp only at hb
      subst hb
      have hj : j < vs.size := by simpa using (List.getElem?_eq_some_iff.1 hu).1
      rw [add_none, cell_heap hw', cell_at z1]
      rw [Array.getElem?_toList, z3, Array.getElem?_extract, if_pos (by omega)] at hu
      exact hu)
    rw [this, Array.toArray_toList]
  unfold elems at he
  split at he
  · injection he with he
    cases he
    cases rx
    exact ⟨⟨_, _, rfl⟩, by simp, #[], fun w' _ => run_firstCells_none _ _ _ _ _, rfl, fun i c u hc => by simp at hc⟩
  · injection he with he
    cases he
    cases rx
    · exact ⟨⟨_, _, rfl⟩, by simp, #[], fun w' _ => run_firstCells_none _ _ _ _ _, rfl, fun i c u hc => by simp at hc⟩
    · rename_i ad
      refine ⟨⟨_, _, rfl⟩, by simp, #[], fun w' _ => ?_, rfl, fun i c u hc => by simp at hc⟩
      have := run_firstCells_some (P := P) w' esz 0 ad 0 0 [] (by simp) (fun j u hu => by simp at hu)
      simpa using this
  · injection he with he
    cases he
    cases rx
    rename_i ad cp
    refine ⟨⟨_, _, rfl⟩, by simp, #[], fun w' _ => ?_, rfl, fun i c u hc => by simp at hc⟩
    have := run_firstCells_some (P := P) w' esz 0 ad 0 cp [] (by simp) (fun j u hu => by simp at hu)
    simpa using this
  · split at he
    · rename_i hl
      injection he with he
      cases he
      cases rx
      · exact ⟨⟨_, _, rfl⟩, hl, #[], fun w' _ => run_firstCells_none _ _ _ _ _, rfl, fun i c u hc => by simp at hc⟩
      · rename_i b c vs q1 qp q2 q3
        by_cases hc0 : cs = []
        · subst hc0
          refine ⟨⟨_, _, rfl⟩, hl, #[], fun w' _ => ?_, rfl, fun i c u hc => by simp at hc⟩
          have := run_firstCells_some (P := P) w' esz n b n c [] hl (fun j u hu => by simp at hu)
          simpa using this
        · obtain ⟨p1, p2, p3⟩ := q2 hc0
          obtain ⟨k1, k2⟩ := key b c vs p1 hl p3
          refine ⟨⟨_, _, rfl⟩, hl, vs, k1, k2, fun i c u hc hu => ⟨q3 i c u hc hu, ?_⟩⟩
          obtain ⟨arr, el, fz, z1, z2, z3, z4⟩ := p3
          have hi := (List.getElem?_eq_some_iff.1 hc).1
          rw [z3, Array.getElem?_extract, if_pos (by omega)] at hu
          exact z4 i u hi hu
    · cases he
  · rename_i id ver off len cap
    split at he
    · rename_i bb hbb
      split at he
      · rename_i hq
        obtain ⟨e1, em, e2, e3⟩ := hq
        injection he with he
        injection he with hen hec
        subst hen
        subst hec
        cases rx
        rename_i b c hr
        obtain ⟨b1, q1, q2, q3⟩ := hr
        rw [hbb] at q1
        injection q1 with q1
        subst q1
        obtain ⟨oo, p1, p2, p3, p4, p5⟩ := q3 e1
        subst p1
        obtain ⟨arr, el, fz, z1, z2, z3, z4⟩ := (hR.blk _ _ hbb).at_ em
        have hll : (List.take (len * esz) (List.drop off bb.cells)).length = len * esz := by simp; omega
        refine ⟨⟨_, _, rfl⟩, hll, ?_⟩
        rw [hll] at key
        by_cases hn0 : len = 0
        · subst hn0
          refine ⟨#[], fun w' _ => ?_, by simp, fun i c u hc => by simp at hc⟩
          have := run_firstCells_some (P := P) w' esz 0 ⟨(φ id).1, oo, none⟩ 0 c [] (by simp) (fun j u hu => by simp at hu)
          simpa using this
        · have hoo := p2 (by omega)
          subst hoo
          have hat : At w (φ id).1 ((φ id).2 + off) (len * esz) (arr.extract ((φ id).2 + off) ((φ id).2 + off + len * esz)) := ⟨arr, el, fz, z1, by omega, rfl, fun i v hi hv => (z4 (off + i) _ v (List.getElem?_eq_getElem (by omega)) (by rw [← Nat.add_assoc]; exact hv)).2⟩
          obtain ⟨k1, k2⟩ := key ⟨(φ id).1, (φ id).2 + off, none⟩ c (arr.extract ((φ id).2 + off) ((φ id).2 + off + len * esz)) rfl rfl hat
          · refine ⟨_, k1, by rw [k2, hll], fun i c u hc hu => ?_⟩
            rw [Array.getElem?_extract] at hu
            split at hu
            · rw [List.getElem?_take] at hc
              split at hc
              · rw [List.getElem?_drop] at hc
                exact z4 _ c u hc (by rw [← Nat.add_assoc]; exact hu)
              · cases hc
            · cases hu
      · cases he
    · cases he
  · cases he
theorem append_room {A : Array TypeId} {ts u ty e : TypeId} {i : TypeInfo} {d : TypeDesc} (hA0 : A[0]? = some ts) (hA1 : A[1]? = some u) (hts : P.underlying ts = some (.slice e)) (hu : P.underlying u = some d) (hd : ∀ k, d ≠ .int k) (hi : P.info? e = some i)
    (b off sLen sCap n : Nat) (x : Value) (news : Array Value) (hlen : (Builtin.lenOf x).run P w = .ok n w) (hfc : (Builtin.firstCells i.size n x).run P w = .ok news w)
    (hroom : sLen + n ≤ sCap) {arr : Array Value} {el : TypeId} {fz : Nat × Nat} (hw : w.heap[b]? = some (.cells arr el fz)) {q : Prop} (hz : fz.1 = fz.2 ∨ (arr.size ≤ fz.1 ∧ q)) (hle : off + sLen * i.size + news.size ≤ arr.size)
    (h1 : ∀ (j : Nat) v, news[j]? = some v → v.oneCell' = true) :
    (Builtin.append_ A ty #[.slice (some ⟨b, off, none⟩) sLen sCap, x]).run P w = .ok (.slice (some ⟨b, off, none⟩) (sLen + n) sCap) (w.setCells b (off + sLen * i.size) news.toList) := by
  have hst := run_storeCells_cells (P := P) b (off + sLen * i.size) news.toList 0 w (fun j hj => by
      rw [cell_at hw]; simp at hj; rw [Array.getElem?_eq_getElem (by omega)]; rfl) (fun j hj => by simp at hj; exact frozen_at hw hz (by omega)) (fun v hv => by
      obtain ⟨j, hj⟩ := List.getElem?_of_mem hv
      exact h1 j v (by simpa using hj))
  simp only [Nat.add_zero] at hst
  have hm : (match d with | .int _ => true | _ => false) = false := by cases d <;> first | rfl | exact absurd rfl (hd _)
  simp [Builtin.append_, hA0, hA1, run_underlying hts, run_underlying hu, sizeOf, typeInfo, hi, hlen, hroom, hfc, add_none, hst, hm]
theorem append_grow {A : Array TypeId} {ts u ty e : TypeId} {i : TypeInfo} {z : Value} {d : TypeDesc} (hA0 : A[0]? = some ts) (hA1 : A[1]? = some u) (hts : P.underlying ts = some (.slice e)) (hu : P.underlying u = some d) (hd : ∀ k, d ≠ .int k) (hi : P.info? e = some i) (hz : i.zero = some z)
    (sa : Option Addr) (sLen sCap n : Nat) (x : Value) (olds news : Array Value) (hlen : (Builtin.lenOf x).run P w = .ok n w)
    (hfo : (Builtin.firstCells i.size sLen (.slice sa sLen sCap)).run P w.drew = .ok olds w.drew) (hfc : (Builtin.firstCells i.size n x).run P w.drew = .ok news w.drew)
    (hg : sCap < sLen + n) (h63 : ((sLen + n : Nat) : Int) ≤ 9223372036854775807) (hfit : Builtin.nextslicecap (sLen + n) sCap * i.bytes ≤ 281474976710656) (hby : 0 < i.bytes) :
    (Builtin.append_ A ty #[.slice sa sLen sCap, x]).run P w = .ok (.slice (some ⟨w.heap.size, 0, none⟩) (sLen + n) (grownCap w (sLen + n) sCap e))
        (w.drew.alloc (.cells (olds ++ news ++ Builtin.zeroCells z.cells (grownCap w (sLen + n) sCap e - (sLen + n))) e)) := by
  have hn : ¬ (sLen + n ≤ sCap) := by omega
  have h63' : ¬ (9223372036854775807 < ((sLen : Int) + (n : Int))) := by omega
  have h48' : ¬ (281474976710656 < Builtin.nextslicecap (sLen + n) sCap * i.bytes) := by omega
  have hb0 : i.bytes ≠ 0 := by omega
  have hm : (match d with | .int _ => true | _ => false) = false := by cases d <;> first | rfl | exact absurd rfl (hd _)
  simp [Builtin.append_, hA0, hA1, run_underlying hts, run_underlying hu, sizeOf, typeInfo, zeroValue, hi, hz, hlen, hn, h63', h48', hb0, Question.forced, hfc, hfo, newRow, grownCap, hm]
variable {r : R} {nx : Nat} (hR : Rel P w0 φ S h w) (ht : ∀ n, Rep φ h S w (t n) (a.tmps.getD n undef))
include hR ht
theorem s_ld {ty : TypeId} {x : Operand} {sz : Option Nat} {x' : X} (ho : o.op = .load ty x) (hs : ldT P ty = some sz) (hx : compX x = some x')
    (e : opA (.ld x' sz) (X.ev t) h nx = some r) : Sound P o a w w0 φ S h r := by
  unfold opA at e
  simp only at e
  have rx := evRep ht hx
  generalize hvx : a.eval x = vx at rx
  split at e
  · rename_i cs off hv
    obtain ⟨p, q, arr, el, fz, rfl, z1, z2, z3⟩ := view_rep hR rx hv
    rcases ldT_cases hs with ⟨rfl, h1, h2⟩ | ⟨n, rfl, h1, h2⟩
    · simp only at e
      rw [Option.map_eq_some_iff] at e
      obtain ⟨c, hc, rfl⟩ := e
      have hi := (List.getElem?_eq_some_iff.1 hc).1
      have hu : arr[q + off]? = some arr[q + off] := Array.getElem?_eq_getElem (by omega)
      refine ⟨arr[q + off], w, φ, .inl ?_, hR, .refl, (z3 off c _ hc hu).1⟩
      simp [execOp, ho, hvx, Instr.loadAt, Instr.sureAddr, loadVar, run_isAgg' h1, cell_at z1, hu]
    · simp only at e
      split at e
      · rename_i hle
        injection e with e
        subst e
        refine ⟨.agg (arr.extract (q + off) (q + off + n)), w, φ, .inl ?_, hR, .refl, ?_⟩
        · simp only [execOp, ho, hvx, Instr.loadAt, Instr.sureAddr]
          simp only [Sem.run_bind, Sem.run_pure, Result.andThen_ok]
          rw [run_loadAgg z1 (by omega) h1 h2]
          rfl
        · refine .agg _ _ (by simp; omega) (fun i v hv => ?_) (fun i c v hc hv => ?_)
          · rw [Array.getElem?_extract] at hv
            split at hv
            · have hi : off + i < cs.length := by omega
              rw [Nat.add_assoc] at hv
              exact (z3 (off + i) _ v (List.getElem?_eq_getElem hi) hv).2
            · cases hv
          · rw [Array.getElem?_extract] at hv
            split at hv
            · rw [List.getElem?_take] at hc
              split at hc
              · rw [List.getElem?_drop] at hc
                rw [Nat.add_assoc] at hv
                exact (z3 (off + i) c v hc hv).1
              · cases hc
            · cases hv
      · cases e
  · cases e
theorem s_mlen {ts : Array TypeId} {ty k el : TypeId} {x : Operand} {x' : X} (ho : o.op = .call { callee := .builtin .len, args := #[x], argTypes := ts }) (hts : ts[0]? = some ty) (hty : P.underlying ty = some (.map k el)) (hx : compX x = some x')
    (e : opA (.mlen x') (X.ev t) h nx = some r) : Sound P o a w w0 φ S h r := by
  unfold opA at e
  simp only at e
  have rx := evRep ht hx
  generalize hvx : a.eval x = vx at rx
  split at e
  · rename_i id ver h1
    rw [h1] at rx
    split at e
    · rename_i bb hbb
      split at e
      · rename_i l hl
        split at e
        · rename_i hv
          injection e with e
          subst e
          cases rx
          rename_i q hq
          obtain ⟨b1, q1, q2, q3⟩ := hq
          rw [hbb] at q1
          injection q1 with q1
          subst q1
          have := q3 hv
          subst this
          obtain ⟨es, clk, z1, z2, z3⟩ := (hR.blk _ _ hbb).map l hl
          refine ⟨.int .i64 l.length, w, φ, .inl ?_, hR, .refl, .int _ _⟩
          simp [execOp, ho, hvx, resolve, invoke, builtin, goInt, Builtin.len_, hts, run_underlying hty, MapKept.run_getObj_map z1, z2]
        · cases e
      · cases e
    · cases e
  · cases e
omit hR ht in
/-- A key's kind, and the key. -/
theorem keyEq_rep {d : TypeDesc} (hd : d = .string ∨ ∃ k, d = .int k) {c c' : V} {x y : Value} {b : Bool} (hx : Rep φ h S w c x) (hy : Rep φ h S w c' y) (e : keyEq c c' = some b) (hk : MapKept.IsKey d x) : MapKept.IsKey d y ∧ (b = true ↔ x = y) := by
  unfold keyEq at e
  split at e
  · split at e
    · rename_i hkk
      subst hkk
      cases hx; cases hy
      injection e with e
      subst e
      rcases hd with rfl | ⟨k, rfl⟩ <;> simp_all [MapKept.IsKey]
    · cases e
  · cases hx
    rcases hd with rfl | ⟨k, rfl⟩ <;> simp_all [MapKept.IsKey]
  · rename_i sa sb
    generalize hs : sa = s1 at hx
    generalize hs' : sb = s2 at hy
    cases hx; cases hy
    subst hs hs'
    injection e with e
    rcases hd with rfl | ⟨k, rfl⟩
    · refine ⟨trivial, ?_⟩
      rw [← e]
      rename_i p q
      obtain ⟨⟨p⟩⟩ := p
      obtain ⟨⟨q⟩⟩ := q
      simp
    · simp [MapKept.IsKey] at hk
  · cases e
omit hR ht in
theorem kvFind_rep {d : TypeDesc} (hd : d = .string ∨ ∃ k, d = .int k) {c : V} {x : Value} (hx : Rep φ h S w c x) (hk : MapKept.IsKey d x) : ∀ (l : List (V × V)) (es : List MapEntry) (i : Nat) (f : Option (Nat × V)), es.length = l.length →
    (∀ (i : Nat) c e, l[i]? = some c → es[i]? = some e → Rep φ h S w c.1 e.key ∧ Rep φ h S w c.2 e.val) → kvFind c l i = some f →
    (f = none ∧ Instr.findNow d x es i = some none) ∨ ∃ j u v y, f = some (j, u) ∧ Instr.findNow d x es i = some (some (j, v)) ∧ Rep φ h S w u v ∧ i ≤ j ∧ es[j - i]? = some y ∧ y.key = x
  | [], es, i, f, hl, _, e => by
    have : es = [] := List.eq_nil_of_length_eq_zero (by simpa using hl)
    subst this
    injection e with e
    exact .inl ⟨e.symm, rfl⟩
  | p :: l, [], i, f, hl, _, e => by simp at hl
  | p :: l, q :: es, i, f, hl, hr, e => by
    obtain ⟨r1, r2⟩ := hr 0 p q rfl rfl
    unfold kvFind at e
    split at e
    · rename_i hq
      injection e with e
      obtain ⟨k1, k2⟩ := keyEq_rep hd hx r1 hq hk
      have hxy := k2.1 rfl
      obtain ⟨s, hs, hiff⟩ := MapKept.sameNow_of_keys hk k1
      have : s = true := hiff.2 hxy
      subst this
      exact .inr ⟨i, p.2, q.val, q, e.symm, by simp [Instr.findNow, hs], r2, Nat.le_refl _, by simp, hxy.symm⟩
    · rename_i hq
      obtain ⟨k1, k2⟩ := keyEq_rep hd hx r1 hq hk
      obtain ⟨s, hs, hiff⟩ := MapKept.sameNow_of_keys hk k1
      have : s = false := by
        cases s with
        | false => rfl
        | true => have := k2.2 (hiff.1 rfl); cases this
      subst this
      rcases kvFind_rep hd hx hk l es (i + 1) f (by simpa using hl) (fun j c e h1 h2 => hr (j + 1) c e h1 h2) e with ⟨h1, h2⟩ | ⟨j, u, v, y, h1, h2, h3, h4, h5, h6⟩
      · exact .inl ⟨h1, by simp [Instr.findNow, hs, h2]⟩
      · refine .inr ⟨j, u, v, y, h1, by simp [Instr.findNow, hs, h2], h3, by omega, ?_, h6⟩
        rw [show j - i = (j - (i + 1)) + 1 by omega]
        simpa using h5
    · cases e
/-- What the type of keys is. -/
def keyT : Option IntKind → TypeDesc
  | none => .string
  | some k => .int k
omit hR ht in
theorem keyT_or (kt : Option IntKind) : keyT kt = .string ∨ ∃ k, keyT kt = .int k := by
  cases kt with
  | none => exact .inl rfl
  | some k => exact .inr ⟨k, rfl⟩
omit hR ht in
theorem isKey_of {kt : Option IntKind} {c : V} {x : Value} (hx : Rep φ h S w c x) (hc : keyIs kt c = true) : MapKept.IsKey (keyT kt) x := by
  unfold keyIs at hc
  split at hc
  · rename_i sa
    generalize hs : sa = s1 at hx
    cases hx
    trivial
  · cases hx
    simpa [MapKept.IsKey, keyT] using (of_decide_eq_true hc).symm
  · cases hc
theorem s_mget {ok : Bool} {kt : Option IntKind} {z : V} {ty k el : TypeId} {x y : Operand} {x' y' : X} (ho : o.op = .lookup ty x y ok) (hty : P.underlying ty = some (.map k el)) (hk : P.underlying k = some (keyT kt)) (hz : zero1 P el = some z) (hx : compX x = some x') (hy : compX y = some y')
    (e : opA (.mget ok kt z x' y') (X.ev t) h nx = some r) : Sound P o a w w0 φ S h r := by
  unfold opA at e
  simp only at e
  have rx := evRep ht hx
  have ry := evRep ht hy
  generalize hvx : a.eval x = vx at rx
  generalize hvy : a.eval y = vy at ry
  split at e
  · rename_i id ver h1
    rw [h1] at rx
    split at e
    · rename_i bb hbb
      split at e
      · rename_i l hl
        split at e
        · rename_i hv
          obtain ⟨hv, hkk⟩ := hv
          cases rx
          rename_i q hq
          obtain ⟨b1, q1, q2, q3⟩ := hq
          rw [hbb] at q1
          injection q1 with q1
          subst q1
          have := q3 hv
          subst this
          obtain ⟨es, clk, z1, z2, z3⟩ := (hR.blk _ _ hbb).map l hl
          have hik := isKey_of ry hkk
          obtain ⟨zv, hzv, hzr⟩ : ∃ zv, (zeroValue el).run P w = .ok zv w ∧ Rep φ h S w z zv := by
            obtain ⟨zz, hzz, hov⟩ := Option.bind_eq_some_iff.1 hz
            obtain ⟨i, hi, hiz⟩ := Option.bind_eq_some_iff.1 hzz
            exact ⟨zz, by simp [zeroValue, typeInfo, hi, hiz], (ofVal1_rep hov).1⟩
          rcases hfk : kvFind (X.ev t y') l 0 with _ | f
          · rw [hfk] at e; cases e
          · rw [hfk] at e
            rcases kvFind_rep (keyT_or kt) ry hik l es.toList 0 f (by simpa using z2) (fun i c e h1 h2 => z3 i c e h1 (by simpa using h2)) hfk with ⟨rfl, h2⟩ | ⟨j, u, v, y0, rfl, h2, h3, _, _, _⟩
            · simp only at e
              injection e with e
              subst e
              refine ⟨if ok then .tuple #[zv, .bool false] else zv, w, φ, .inl ?_, hR, .refl, ?_⟩
              · simp [execOp, ho, hvx, hvy, Instr.lookup, run_underlying hty, MapKept.run_getObj_map z1, MapKept.run_checkKey hk hik, MapKept.run_findKey hk h2, hzv]
              · cases ok
                · exact hzr
                · refine .tup _ _ rfl fun i c v hc hv => ?_
                  match i with
                  | 0 => simp at hc hv; subst hc hv; exact hzr
                  | 1 => simp at hc hv; subst hc hv; exact .bool _
                  | i + 2 => simp at hc
            · simp only at e
              injection e with e
              subst e
              refine ⟨if ok then .tuple #[v, .bool true] else v, w, φ, .inl ?_, hR, .refl, ?_⟩
              · simp [execOp, ho, hvx, hvy, Instr.lookup, run_underlying hty, MapKept.run_getObj_map z1, MapKept.run_checkKey hk hik, MapKept.run_findKey hk h2]
              · cases ok
                · exact h3
                · refine .tup _ _ rfl fun i c v hc hv => ?_
                  match i with
                  | 0 => simp at hc hv; subst hc hv; exact h3
                  | 1 => simp at hc hv; subst hc hv; exact .bool _
                  | i + 2 => simp at hc
        · cases e
      · cases e
    · cases e
  · cases e
end
end Go.Ex
