/- The small operations that make blocks and write into them. -/
import Derived.Test.YtaegjihmpgdfcaaExE
set_option linter.unusedVariables false
set_option linter.unusedSectionVars false
set_option linter.unusedSimpArgs false
namespace Go.Ex
open Go.RowKit
section
variable {φ : Nat → Nat × Nat} {h : Hp} {S : Nat → Prop} {w w0 : World} {P : Program} {a : Act} {o : Oper} {t : Nat → V} {sh : Nat → Bool}
theorem cells_rep {v : V} {x : Value} (rx : Rep φ h S w v x) (hj : v ≠ .junk) : x.cells.size = v.cells.length ∧
    ((∀ (l : List V), v ≠ .tup l) → ∀ (i : Nat) c u, v.cells[i]? = some c → x.cells[i]? = some u → Rep φ h S w c u ∧ u.oneCell' = true) := by
  have one : ∀ {v : V} {x : Value}, Rep φ h S w v x → v.cells = [v] → x.cells = #[x] → x.oneCell' = true → x.cells.size = v.cells.length ∧
      ∀ (i : Nat) c u, v.cells[i]? = some c → x.cells[i]? = some u → Rep φ h S w c u ∧ u.oneCell' = true := by
    intro v x rx h1 h2 h3
    rw [h1, h2]
    refine ⟨rfl, fun i c u hc hu => ?_⟩
    cases i with
    | zero => simp at hc hu; subst hc; subst hu; exact ⟨rx, h3⟩
    | succ i => simp at hc
  cases rx with
  | agg cs vs h1 h2 h3 => exact ⟨h1, fun _ i c u hc hu => ⟨h3 i c u hc hu, h2 i u hu⟩⟩
  | tup cs vs h1 h2 => exact ⟨rfl, fun hn => absurd rfl (hn _)⟩
  | junk => exact absurd rfl hj
  | int k n => have := one (.int k n) rfl rfl rfl; exact ⟨this.1, fun _ => this.2⟩
  | bool b => have := one (.bool b) rfl rfl rfl; exact ⟨this.1, fun _ => this.2⟩
  | str s => have := one (.str s) rfl rfl rfl; exact ⟨this.1, fun _ => this.2⟩
  | roN => have := one .roN rfl rfl rfl; exact ⟨this.1, fun _ => this.2⟩
  | ro n cs b c vs h1 h0 h2 h3 => have := one (.ro n cs b c vs h1 h0 h2 h3) rfl rfl rfl; exact ⟨this.1, fun _ => this.2⟩
  | rp cs off r o vs h0 h1 h2 h3 => have := one (.rp cs off r o vs h0 h1 h2 h3) rfl rfl rfl; exact ⟨this.1, fun _ => this.2⟩
  | sl id ver off len cap b c h1 => have := one (.sl id ver off len cap b c h1) rfl rfl rfl; exact ⟨this.1, fun _ => this.2⟩
  | pt id ver off b h1 => have := one (.pt id ver off b h1) rfl rfl rfl; exact ⟨this.1, fun _ => this.2⟩
  | ns => have := one .ns rfl rfl rfl; exact ⟨this.1, fun _ => this.2⟩
  | np => have := one .np rfl rfl rfl; exact ⟨this.1, fun _ => this.2⟩
  | em0 => have := one .em0 rfl rfl rfl; exact ⟨this.1, fun _ => this.2⟩
  | em a => have := one (.em a) rfl rfl rfl; exact ⟨this.1, fun _ => this.2⟩
  | ne a c => have := one (.ne a c) rfl rfl rfl; exact ⟨this.1, fun _ => this.2⟩
  | mp id ver r h1 => have := one (.mp id ver r h1) rfl rfl rfl; exact ⟨this.1, fun _ => this.2⟩
  | fn f cs vs h1 h2 => have := one (.fn f cs vs h1 h2) rfl rfl rfl; exact ⟨this.1, fun _ => this.2⟩
theorem storable_rep {v : V} {x : Value} (rx : Rep φ h S w v x) (hv : v.storable = true) : x.cells.size = v.cells.length ∧
    ∀ (i : Nat) c u, v.cells[i]? = some c → x.cells[i]? = some u → Rep φ h S w c u ∧ u.oneCell' = true := by
  have := cells_rep rx (by intro q; rw [q] at hv; cases hv)
  exact ⟨this.1, this.2 (by intro l q; rw [q] at hv; cases hv)⟩
theorem below_of {w' : World} (w1 : w'.os = w.os) (w2 : w'.tape = w.tape) (w3 : w'.output = w.output) (w4 : w.heap.size ≤ w'.heap.size) (w5 : ∀ k, k < w.heap.size → w'.heap[k]? = w.heap[k]?) : Below w.heap.size w w' := ⟨w1, w2, w3, w4, w5⟩
theorem below_alloc' (o : Obj) : Below w.heap.size w (w.alloc o) := (Below.refl _ _).alloc (Nat.le_refl _) _
theorem below_drew_alloc (o : Obj) : Below w.heap.size w (w.drew.alloc o) := (Below.refl _ _).drew.alloc (Nat.le_refl _) _
theorem alloc_at (o : Obj) : (w.alloc o).heap[w.heap.size]? = some o := by
  show (w.heap.push o)[w.heap.size]? = _
  simp
theorem lt_of_at' {r : Nat} {o : Obj} {w : World} (hw : w.heap[r]? = some o) : r < w.heap.size := (Array.getElem?_eq_some_iff.1 hw).1
theorem upd_self {α : Type} (f : Nat → α) (i : Nat) (x : α) : upd f i x i = x := by simp [upd]
/-- A new block of so many elements: the slice of it. -/
theorem Sound.newSlice {nx g esz len cap : Nat} {ocap : Option Nat} {cells : List V} {r : R} (hR : Rel P w0 φ S h w) {w' : World} (hb : Below w.heap.size w w') (hf : h nx = none) (hg : w.heap.size ≤ g) {arr : Array Value} {el : TypeId} {fz : Nat × Nat}
    (hw : w'.heap[g]? = some (.cells arr el fz)) (hl : cells.length ≤ arr.size) (hz : fz.1 = fz.2 ∨ (arr.size ≤ fz.1 ∧ esz = 1))
    (hc : ∀ (i : Nat) c v, cells[i]? = some c → arr[i]? = some v → Rep φ h S w c v ∧ v.oneCell' = true)
    (hcap : cap * esz ≤ arr.size) (hlen : len ≤ cap) (hoc : ∀ n, ocap = some n → cap = n)
    (rv : r.v = .sl nx 0 0 len ocap) (rh : r.h = upd h nx (some ⟨0, esz, cells, none⟩))
    (run : (execOp a.eval o).run P w = .ok (.value (.slice (some ⟨g, 0, none⟩) len cap)) w') : Sound P o a w w0 φ S h r := by
  obtain ⟨h1, h2⟩ := hR.new hb hf hg hw hl hz hc esz
  refine ⟨_, w', upd φ nx (g, 0), .inl run, ?_, ?_, ?_⟩
  · rw [rh]; exact h1
  · rw [rh]; exact h2
  · rw [rv, rh]
    refine .sl _ _ _ _ _ _ _ ⟨_, upd_self _ _ _, Nat.le_refl _, fun _ => ⟨0, by rw [upd_self], fun _ => by rw [upd_self], ?_, hlen, hoc⟩⟩
    rw [upd_self, szOf_at hw]
    simpa using hcap
theorem Sound.newPtr {nx g esz : Nat} {cells : List V} {r : R} (hR : Rel P w0 φ S h w) {w' : World} (hb : Below w.heap.size w w') (hf : h nx = none) (hg : w.heap.size ≤ g) {arr : Array Value} {el : TypeId} {fz : Nat × Nat}
    (hw : w'.heap[g]? = some (.cells arr el fz)) (hl : cells.length ≤ arr.size) (hz : fz.1 = fz.2 ∨ (arr.size ≤ fz.1 ∧ esz = 1))
    (hc : ∀ (i : Nat) c v, cells[i]? = some c → arr[i]? = some v → Rep φ h S w c v ∧ v.oneCell' = true)
    (rv : r.v = .pt nx 0 0) (rh : r.h = upd h nx (some ⟨0, esz, cells, none⟩))
    (run : (execOp a.eval o).run P w = .ok (.value (.pointer (some ⟨g, 0, none⟩))) w') : Sound P o a w w0 φ S h r := by
  obtain ⟨h1, h2⟩ := hR.new hb hf hg hw hl hz hc esz
  refine ⟨_, w', upd φ nx (g, 0), .inl run, ?_, ?_, ?_⟩
  · rw [rh]; exact h1
  · rw [rh]; exact h2
  · rw [rv, rh]
    exact .pt _ _ _ _ ⟨_, upd_self _ _ _, Nat.le_refl _, fun _ => by rw [upd_self]⟩
theorem fold_put : ∀ (l : List Value) (k : Nat) (arr : Array Value) (off : Nat), (l.zipIdx k).foldl (fun cs (c, j) => cs.setIfInBounds (off + j) c) arr = putArr arr (off + k) l
  | [], k, arr, off => rfl
  | v :: l, k, arr, off => by
    rw [List.zipIdx_cons, List.foldl_cons, fold_put l (k + 1)]
    rfl
variable {r : R} {nx : Nat} (hR : Rel P w0 φ S h w) (ht : ∀ n, Rep φ h S w (t n) (a.tmps.getD n undef)) (hf : ∀ id, nx ≤ id → id < r.nx → h id = none)
include hR ht hf
theorem s_box {ty : TypeId} {x : Operand} {x' : X} (ho : o.op = .box ty x) (hx : compX x = some x') (e : opA (.box x') (X.ev t) h nx = some r) : Sound P o a w w0 φ S h r := by
  unfold opA at e
  simp only at e
  split at e
  · rename_i hst
    injection e with e
    subst e
    obtain ⟨h1, h2⟩ := storable_rep (evRep ht hx) hst
    exact .newPtr hR (below_alloc' (.cells (a.eval x).cells ty)) (hf nx (Nat.le_refl _) (Nat.lt_succ_self _)) (Nat.le_refl _) (alloc_at _) (by omega) (.inl rfl) h2 rfl rfl
      (by simp [execOp, ho, Instr.box, newVar, newRow])
  · cases e
theorem s_alloc {ty : TypeId} {cs : List V} (ho : o.op = .alloc ty) (hz : zeroT P ty = some cs) (e : opA (.alloc cs) (X.ev t) h nx = some r) : Sound P o a w w0 φ S h r := by
  have _ := ht
  unfold opA at e
  simp only at e
  injection e with e
  subst e
  unfold zeroT at hz
  split at hz
  · rename_i z hzz
    obtain ⟨i, hi, hiz⟩ := Option.bind_eq_some_iff.1 hzz
    obtain ⟨h1, h2⟩ := mapM_at hz
    refine .newPtr hR (below_alloc' (.cells z.cells ty)) (hf nx (Nat.le_refl _) (Nat.lt_succ_self _)) (Nat.le_refl _) (alloc_at _) (by simp at h1; omega) (.inl rfl) (fun i c v hc hv => ?_) rfl rfl
      (by simp [execOp, ho, Instr.alloc, newVar, newRow, zeroValue, typeInfo, hi, hiz])
    exact ofVal1_rep (h2 i v c (by simpa using hv) hc)
  · cases hz
theorem s_ala {ty : TypeId} {esz : Nat} {cs : List V} (ho : o.op = .alloc ty) (hz : zeroT P ty = some cs) (e : opA (.ala esz cs) (X.ev t) h nx = some r) : Sound P o a w w0 φ S h r := by
  have _ := ht
  unfold opA at e
  simp only at e
  injection e with e
  subst e
  unfold zeroT at hz
  split at hz
  · rename_i z hzz
    obtain ⟨i, hi, hiz⟩ := Option.bind_eq_some_iff.1 hzz
    obtain ⟨h1, h2⟩ := mapM_at hz
    refine .newPtr hR (below_alloc' (.cells z.cells ty)) (hf nx (Nat.le_refl _) (Nat.lt_succ_self _)) (Nat.le_refl _) (alloc_at _) (by simp at h1; omega) (.inl rfl) (fun i c v hc hv => ?_) rfl rfl
      (by simp [execOp, ho, Instr.alloc, newVar, newRow, zeroValue, typeInfo, hi, hiz])
    exact ofVal1_rep (h2 i v c (by simpa using hv) hc)
  · cases hz
theorem s_st {ty : TypeId} {x v : Operand} {n : Nat} {b : Bool} {x' v' : X} (ho : o.op = .store ty x v) (ha : aggT P ty = some b) (hs : szT P ty = some n) (hx : compX x = some x') (hv : compX v = some v')
    (e : opA (.st x' v' n) (X.ev t) h nx = some r) : Sound P o a w w0 φ S h r := by
  unfold opA at e
  simp only at e
  have rx := evRep ht hx
  have rv := evRep ht hv
  generalize hvx : a.eval x = vx at rx
  generalize hvv : a.eval v = vv at rv
  split at e
  · rename_i id ver off h1
    rw [h1] at rx
    split at e
    · rename_i bb hbb
      split at e
      · rename_i hc
        obtain ⟨c1, cm, c2, c3, c4⟩ := hc
        injection e with e
        subst e
        cases rx
        rename_i ad hr
        obtain ⟨b1, q1, q2, q3⟩ := hr
        rw [hbb] at q1
        injection q1 with q1
        subst q1
        have := q3 c1
        subst this
        obtain ⟨g1, g2⟩ := storable_rep rv c4
        obtain ⟨arr, el, fz, z1, z2, z3, z4⟩ := (hR.blk _ _ hbb).at_ cm
        have hst := run_storeCells_cells (P := P) (φ id).1 ((φ id).2 + off) vv.cells.toList 0 w (fun j hj => by
            rw [cell_at z1]; simp at hj; rw [Array.getElem?_eq_getElem (by omega)]; rfl) (fun j hj => by simp at hj; exact frozen_at z1 z3 (by omega)) (fun u hu => by
            obtain ⟨j, hj⟩ := List.getElem?_of_mem hu
            have hj' : vv.cells[j]? = some u := by simpa using hj
            have hjl : j < (v'.ev t).cells.length := by
              have := (Array.getElem?_eq_some_iff.1 hj').1
              omega
            exact (g2 j _ u (List.getElem?_eq_getElem hjl) hj').2)
        simp only [Nat.add_zero] at hst
        obtain ⟨s1, s2, s3, s4⟩ := setCells_same vv.cells.toList w (φ id).1 ((φ id).2 + off)
        have hw := hR.write (b' := ⟨ver, bb.esz, putL bb.cells off (v'.ev t).cells, none⟩) hbb (by simp; omega) (fun _ => rfl) rfl (fun k hk => setCells_else _ _ _ _ _ hk) s2 s3 s4 s1 z1 (setCells_self _ _ _ _ _ _ _ z1) (putArr_size _ _ _) z3 (by simp [putL_len]; omega)
          (fun i c u hc hu => by
            rw [putL_get _ _ _ _ (by omega)] at hc
            rw [putArr_get _ _ _ _ (by simp; omega)] at hu
            simp only [Array.length_toList, g1] at hu
            split at hc
            · rename_i hq
              rw [if_pos (by omega)] at hu
              rw [show (φ id).2 + i - ((φ id).2 + off) = i - off by omega] at hu
              exact g2 _ c u hc (by simpa using hu)
            · rename_i hq
              rw [if_neg (by omega)] at hu
              exact z4 i c u hc hu)
        refine ⟨undef, _, φ, .inr ⟨?_, rfl⟩, hw.1, hw.2, .tup _ _ rfl (fun i c v hc => by simp at hc)⟩
        have hcs : vv.cells.size = n := by omega
        simp [execOp, ho, hvx, hvv, Instr.storeAt, Instr.sureAddr, storeVar, run_sizeOf' hs, hcs, hst]
      · cases e
    · cases e
  · cases e
theorem s_s2b {s d el : TypeId} {x : Operand} {x' : X} (ho : o.op = .convert s d x) (hs : P.underlying s = some .string) (hd : P.underlying d = some (.slice el)) (he : P.underlying el = some (.int .u8)) (hx : compX x = some x')
    (e : opA (.s2b x') (X.ev t) h nx = some r) : Sound P o a w w0 φ S h r := by
  unfold opA at e
  simp only at e
  have rx := evRep ht hx
  generalize hvx : a.eval x = vx at rx
  split at e
  · rename_i l h1
    rw [h1] at rx
    generalize hl : l = l' at rx
    cases rx
    rename_i q
    injection e with e
    subst e
    subst hl
    have hsz : q.data.toList.length = q.size := by simp
    have hge : q.size ≤ grownCap w q.size 0 el := grownCap_ge w q.size 0 el
    have hbs : (Lib.bytesCells w el q).size = grownCap w q.size 0 el := by
      have : q.data.size = q.size := rfl
      simp [Lib.bytesCells]; omega
    refine .newSlice (cap := grownCap w q.size 0 el) hR ?_ (hf nx (Nat.le_refl _) (Nat.lt_succ_self _)) (Nat.le_refl _) (Lib.bytesWorld_at_new w el q) ?_ (.inr ⟨Nat.le_refl _, rfl⟩) ?_ (by rw [hbs]; omega) (by omega) (fun n hn => by cases hn) rfl rfl ?_
    · exact ⟨rfl, rfl, rfl, by rw [Lib.bytesWorld_size]; omega, fun k hk => Lib.bytesWorld_at_old w el q k hk⟩
    · simp only [bytesV, List.length_map]; omega
    · intro i c v hc hv
      simp only [bytesV, List.getElem?_map, Option.map_eq_some_iff] at hc
      obtain ⟨b, hb, rfl⟩ := hc
      have hi : i < q.data.size := by simpa using (List.getElem?_eq_some_iff.1 hb).1
      have hb' : q.data[i]? = some b := by simpa using hb
      simp only [Lib.bytesCells] at hv
      rw [Array.getElem?_append_left (by simpa using hi), Array.getElem?_map, hb'] at hv
      simp at hv
      subst hv
      exact ⟨.int _ _, rfl⟩
    · rw [hsz]
      simp [execOp, ho, hvx, Lib.run_convert_string_bytes w s d el q hs hd he]
  · cases e
omit hR hf in
theorem fillS_rep {place : Nat → Option (Nat × Nat)} : ∀ (ps : List (Nat × Operand)) (ps' : List (Nat × Nat × X)) (cs cs' : List V) (arr : Array Value), compParts place ps = some ps' → fillS (X.ev t) cs ps' = some cs' →
    arr.size = cs.length → (∀ (i : Nat) c u, cs[i]? = some c → arr[i]? = some u → Rep φ h S w c u ∧ u.oneCell' = true) →
    ∃ arr', Instr.fill place arr (ps.map fun p => (p.1, a.eval p.2)) = some arr' ∧ arr'.size = cs'.length ∧ ∀ (i : Nat) c u, cs'[i]? = some c → arr'[i]? = some u → Rep φ h S w c u ∧ u.oneCell' = true
  | [], ps', cs, cs', arr, e1, e2, h1, h2 => by
    simp [compParts] at e1
    subst e1
    simp [fillS] at e2
    subst e2
    exact ⟨arr, rfl, h1, h2⟩
  | (i, x) :: ps, ps', cs, cs', arr, e1, e2, h1, h2 => by
    unfold compParts at e1
    split at e1
    · rename_i off s x' r' p1 p2 p3
      injection e1 with e1
      subst e1
      unfold fillS at e2
      split at e2
      · rename_i hq
        obtain ⟨c1, c2, c3⟩ := hq
        obtain ⟨g1, g2⟩ := storable_rep (evRep ht p2) c3
        have hfold : (a.eval x).cells.zipIdx.foldl (fun cs (c, j) => cs.setIfInBounds (off + j) c) arr = putArr arr off (a.eval x).cells.toList := by
          rw [← Array.foldl_toList, Array.toList_zipIdx]
          exact fold_put _ 0 _ off
        obtain ⟨arr', k1, k2, k3⟩ := fillS_rep ps r' _ cs' (putArr arr off (a.eval x).cells.toList) p3 e2 (by rw [putArr_size, putL_len, h1]) (fun i c u hc hu => by
            rw [putL_get _ _ _ _ (by omega)] at hc
            rw [putArr_get _ _ _ _ (by simp; omega)] at hu
            simp only [Array.length_toList, g1] at hu
            split at hc
            · rename_i hq
              rw [if_pos hq] at hu
              exact g2 _ c u hc (by simpa using hu)
            · rename_i hq
              rw [if_neg hq] at hu
              exact h2 i c u hc hu)
        refine ⟨arr', ?_, k2, k3⟩
        simp only [List.map_cons, Instr.fill, p1]
        rw [if_neg (by simp; omega), hfold]
        exact k1
      · cases e2
    · cases e1
omit hR hf in
theorem fillA_rep {esz : Nat} : ∀ (ps : List (Nat × Operand)) (ps' : List (Nat × X)) (cs cs' : List V) (arr : Array Value), compElems ps = some ps' → fillA esz (X.ev t) cs ps' = some cs' →
    arr.size = cs.length → (∀ (i : Nat) c u, cs[i]? = some c → arr[i]? = some u → Rep φ h S w c u ∧ u.oneCell' = true) →
    ∃ arr', Instr.fill (fun i => some (i * esz, esz)) arr (ps.map fun p => (p.1, a.eval p.2)) = some arr' ∧ arr'.size = cs'.length ∧ ∀ (i : Nat) c u, cs'[i]? = some c → arr'[i]? = some u → Rep φ h S w c u ∧ u.oneCell' = true
  | [], ps', cs, cs', arr, e1, e2, h1, h2 => by
    simp [compElems] at e1
    subst e1
    simp [fillA] at e2
    subst e2
    exact ⟨arr, rfl, h1, h2⟩
  | (i, x) :: ps, ps', cs, cs', arr, e1, e2, h1, h2 => by
    unfold compElems at e1
    split at e1
    · rename_i x' r' p2 p3
      injection e1 with e1
      subst e1
      unfold fillA at e2
      split at e2
      · rename_i hq
        obtain ⟨c1, c2, c3⟩ := hq
        obtain ⟨g1, g2⟩ := storable_rep (evRep ht p2) c3
        have hfold : (a.eval x).cells.zipIdx.foldl (fun cs (c, j) => cs.setIfInBounds (i * esz + j) c) arr = putArr arr (i * esz) (a.eval x).cells.toList := by
          rw [← Array.foldl_toList, Array.toList_zipIdx]
          exact fold_put _ 0 _ (i * esz)
        obtain ⟨arr', k1, k2, k3⟩ := fillA_rep ps r' _ cs' (putArr arr (i * esz) (a.eval x).cells.toList) p3 e2 (by rw [putArr_size, putL_len, h1]) (fun j c u hc hu => by
            rw [putL_get _ _ _ _ (by omega)] at hc
            rw [putArr_get _ _ _ _ (by simp; omega)] at hu
            simp only [Array.length_toList, g1] at hu
            split at hc
            · rename_i hq
              rw [if_pos hq] at hu
              exact g2 _ c u hc (by simpa using hu)
            · rename_i hq
              rw [if_neg hq] at hu
              exact h2 j c u hc hu)
        refine ⟨arr', ?_, k2, k3⟩
        simp only [List.map_cons, Instr.fill]
        rw [if_neg (by simp; omega), hfold]
        exact k1
      · cases e2
    · cases e1
omit hR ht hf in
theorem zeros_rep {e : TypeId} {i : TypeInfo} {z : Value} {zs : List V} (hi : P.info? e = some i) (hz : i.zero = some z) (hzs : zeroT P e = some zs) :
    z.cells.size = zs.length ∧ ∀ (j : Nat) c u, zs[j]? = some c → z.cells[j]? = some u → Rep φ h S w c u ∧ u.oneCell' = true := by
  unfold zeroT at hzs
  rw [hi] at hzs
  simp only [Option.bind_some, hz] at hzs
  obtain ⟨h1, h2⟩ := mapM_at hzs
  exact ⟨by simpa using h1, fun j c u hc hu => ofVal1_rep (h2 j u c (by simpa using hu) hc)⟩
omit hR ht hf in
theorem zeros_len (zs : List V) : ∀ n, (zeros zs n).length = n * zs.length
  | 0 => by simp [zeros]
  | n + 1 => by simp only [zeros, List.length_append, zeros_len zs n, Nat.add_mul, Nat.one_mul]; omega
omit hR ht hf in
theorem zeros_get (zs : List V) (hp : 0 < zs.length) : ∀ n j, j < n * zs.length → (zeros zs n)[j]? = zs[j % zs.length]?
  | 0, j, hj => by omega
  | n + 1, j, hj => by
    simp only [zeros]
    by_cases h1 : j < zs.length
    · rw [List.getElem?_append_left h1, Nat.mod_eq_of_lt h1]
    · rw [List.getElem?_append_right (by omega), zeros_get zs hp n _ (by rw [Nat.add_mul] at hj; omega)]
      congr 1
      rw [← Nat.mod_eq_sub_mod (by omega)]
omit hR ht hf in
theorem range_rep {z : Value} {zs : List V} {n : Nat} (h1 : z.cells.size = zs.length) (h2 : ∀ (j : Nat) c u, zs[j]? = some c → z.cells[j]? = some u → Rep φ h S w c u ∧ u.oneCell' = true) (hp : 0 < zs.length) :
    (∀ (i : Nat) c u, (zeros zs n)[i]? = some c → ((Array.range (n * zs.length)).map fun j => z.cells[j % z.cells.size]!)[i]? = some u → Rep φ h S w c u ∧ u.oneCell' = true) := by
  intro i c u hc hu
  rw [Array.getElem?_map, Option.map_eq_some_iff] at hu
  obtain ⟨j, hj, rfl⟩ := hu
  have hij : j = i ∧ i < n * zs.length := by
    rw [Array.getElem?_eq_some_iff] at hj
    obtain ⟨q1, q2⟩ := hj
    simp at q1 q2
    exact ⟨q2.symm, q1⟩
  obtain ⟨rfl, hi⟩ := hij
  rw [zeros_get zs hp n _ hi] at hc
  rw [h1]
  have hm : j % zs.length < z.cells.size := by rw [h1]; exact Nat.mod_lt _ hp
  refine h2 _ c _ hc ?_
  rw [Array.getElem?_eq_getElem hm]
  congr 1
  exact (getElem!_pos z.cells _ hm).symm
omit hf in
theorem s_bro {ty el : TypeId} {len n : Nat} {parts : Array (Nat × Operand)} {zs : List V} {ps : List (Nat × X)} (ho : o.op = .buildSlice ty len parts) (hty : P.underlying ty = some (.slice el)) (hs : szT P el = some n) (hz : zeroT P el = some zs)
    (hp : compElems parts.toList = some ps) (hle : len * n ≤ 2 ^ 24) (hn : 0 < n) (hzn : zs.length = n) (hl0 : 0 < len) (e : opA (.bro len n zs ps) (X.ev t) h nx = some r) : Sound' P o a w w0 φ S h r := by
  unfold opA at e
  simp only [ret0] at e
  rw [Option.map_eq_some_iff] at e
  obtain ⟨v, hv, rfl⟩ := e
  rw [Option.bind_eq_some_iff] at hv
  obtain ⟨cs, hcs, hv⟩ := hv
  split at hv
  rotate_left
  · cases hv
  rename_i hpure
  injection hv with hv
  subst hv
  obtain ⟨i, hi, his⟩ : ∃ i, P.info? el = some i ∧ i.size = n := by
    unfold szT at hs; rw [Option.map_eq_some_iff] at hs; exact hs
  obtain ⟨z, hzz⟩ : ∃ z, i.zero = some z := by
    unfold zeroT at hz; rw [hi] at hz; simp only [Option.bind_some] at hz
    split at hz
    · exact ⟨_, by assumption⟩
    · cases hz
  obtain ⟨z1, z2⟩ := zeros_rep (φ := φ) (h := h) (S := S) (w := w) hi hzz hz
  have hrr := range_rep (n := len) z1 z2 (by omega)
  rw [hzn] at hrr
  obtain ⟨arr', k1, k2, k3⟩ := fillA_rep (esz := n) ht parts.toList ps _ cs _ hp hcs (by simp [zeros_len, hzn]) hrr
  have hnb : ¬ (2 ^ 24 < len * n) := by omega
  have hlen : cs.length = len * n := by
    have : ∀ (ps : List (Nat × X)) (c0 c1 : List V), fillA n (X.ev t) c0 ps = some c1 → c1.length = c0.length := by
      intro ps
      induction ps with
      | nil => intro c0 c1 hh; simp [fillA] at hh; rw [hh]
      | cons p ps ih =>
        intro c0 c1 hh
        unfold fillA at hh
        split at hh
        · rw [ih _ _ hh, putL_len]
        · cases hh
    rw [this _ _ _ hcs, zeros_len, hzn]
  have hpos : 0 < len * n := Nat.mul_pos hl0 hn
  have bel : Below w.heap.size w (w.alloc (.cells arr' el)) := below_alloc' (.cells arr' el)
  let S' : Nat → Prop := fun b => S b ∨ b = w.heap.size
  have hext : Ext φ h S w φ h S' (w.alloc (.cells arr' el)) := ⟨fun r hr => .inl hr, fun r hr => bel.block r (hR.sin r hr), fun id b hb => ⟨b, hb, Nat.le_refl _, fun _ => ⟨rfl, rfl, by simp only [szOf, bel.block _ (hR.lt hb)]⟩⟩⟩
  refine ⟨.slice (some ⟨w.heap.size, 0, none⟩) len len, w.alloc (.cells arr' el), φ, S', .inl ?_, ⟨hR.below.trans (bel.mono hR.base), hR.gl, fun r hr => ?_, fun id b hb => ?_, hR.inj⟩, hext, fun b hb hlt => ?_, ?_⟩
  · by_cases h0 : len * n = 0
    · omega
    · have k1' : Instr.fill (fun i => some (i * n, n)) ((Array.range (len * n)).map fun j => z.cells[j % z.cells.size]!) (parts.toList.map fun p => (p.1, a.eval p.2)) = some arr' := k1
      simp [execOp, ho, Instr.buildSlice, run_underlying hty, run_sizeOf' hs, hnb, h0, zeroValue, typeInfo, hi, hzz, newRow]
      rw [k1']
      simp
  · rcases hr with hr | rfl
    · exact Nat.lt_of_lt_of_le (hR.sin r hr) bel.size
    · show _ < (w.heap.push _).size
      simp
  · refine (hR.blk id b hb).keep hext rfl ?_ bel.size (bel.block _ (hR.lt hb))
    rintro (q | q)
    · exact (hR.blk id b hb).out q
    · have := hR.lt hb; omega
  · rcases hb with hb | rfl
    · exact hb
    · have := hR.base; omega
  · refine .ro _ _ _ _ arr' (Nat.le_refl _) hpure (fun _ => ⟨rfl, .inr rfl, arr', el, (0, 0), alloc_at _, by simp only []; omega, ?_, fun i v hi hv => ?_⟩) (fun i x v hx hv => ((k3 i x v hx hv).1.ext hext))
    · rw [Nat.zero_add, ← k2]
      exact (Array.extract_size).symm
    · rw [Nat.zero_add] at hv
      have hi' : i < cs.length := hi
      exact (k3 i _ v (List.getElem?_eq_getElem hi') hv).2
theorem s_bs {ty el : TypeId} {len n : Nat} {parts : Array (Nat × Operand)} {zs : List V} {ps : List (Nat × X)} (ho : o.op = .buildSlice ty len parts) (hty : P.underlying ty = some (.slice el)) (hs : szT P el = some n) (hz : zeroT P el = some zs)
    (hp : compElems parts.toList = some ps) (hle : len * n ≤ 2 ^ 24) (hn : 0 < n) (hzn : zs.length = n) (e : opA (.bs len n zs ps) (X.ev t) h nx = some r) : Sound P o a w w0 φ S h r := by
  unfold opA at e
  simp only at e
  rw [Option.map_eq_some_iff] at e
  obtain ⟨cs, hcs, rfl⟩ := e
  obtain ⟨i, hi, his⟩ : ∃ i, P.info? el = some i ∧ i.size = n := by
    unfold szT at hs; rw [Option.map_eq_some_iff] at hs; exact hs
  obtain ⟨z, hzz⟩ : ∃ z, i.zero = some z := by
    unfold zeroT at hz; rw [hi] at hz; simp only [Option.bind_some] at hz
    split at hz
    · exact ⟨_, by assumption⟩
    · cases hz
  obtain ⟨z1, z2⟩ := zeros_rep (φ := φ) (h := h) (S := S) (w := w) hi hzz hz
  have hrr := range_rep (n := len) z1 z2 (by omega)
  rw [hzn] at hrr
  obtain ⟨arr', k1, k2, k3⟩ := fillA_rep (esz := n) ht parts.toList ps _ cs _ hp hcs (by simp [zeros_len, hzn]) hrr
  have hps : (parts.map fun (p : Nat × Operand) => (p.1, a.eval p.2)).toList = parts.toList.map fun p => (p.1, a.eval p.2) := by simp
  have hnb : ¬ (2 ^ 24 < len * n) := by omega
  have hlen : cs.length = len * n := by
    have : ∀ (ps : List (Nat × X)) (c0 c1 : List V), fillA n (X.ev t) c0 ps = some c1 → c1.length = c0.length := by
      intro ps
      induction ps with
      | nil => intro c0 c1 hh; simp [fillA] at hh; rw [hh]
      | cons p ps ih =>
        intro c0 c1 hh
        unfold fillA at hh
        split at hh
        · rw [ih _ _ hh, putL_len]
        · cases hh
    rw [this _ _ _ hcs, zeros_len, hzn]
  refine .newSlice (cap := len) hR (below_alloc' (.cells arr' el)) (hf nx (Nat.le_refl _) (Nat.lt_succ_self _)) (Nat.le_refl _) (alloc_at _) (by omega) (.inl rfl) k3 (by omega) (Nat.le_refl _) (fun m hm => by injection hm) rfl rfl ?_
  by_cases h0 : len * n = 0
  · have hl0 : len = 0 := by
      rcases Nat.mul_eq_zero.1 h0 with q | q
      · exact q
      · omega
    subst hl0
    have k1' : Instr.fill (fun i => some (i * n, n)) #[] (parts.toList.map fun p => (p.1, a.eval p.2)) = some arr' := by
      have hr0 : ((Array.range (0 * n)).map fun j => z.cells[j % z.cells.size]!) = #[] := by rw [Nat.zero_mul]; simp
      rw [hr0] at k1
      exact k1
    simp [execOp, ho, Instr.buildSlice, run_underlying hty, run_sizeOf' hs, newRow]
    rw [show Array.map (fun _ => (default : Value)) (Array.range 0) = #[] by simp, k1']
    simp
  · have k1' : Instr.fill (fun i => some (i * n, n)) ((Array.range (len * n)).map fun j => z.cells[j % z.cells.size]!) (parts.toList.map fun p => (p.1, a.eval p.2)) = some arr' := k1
    simp [execOp, ho, Instr.buildSlice, run_underlying hty, run_sizeOf' hs, hnb, h0, zeroValue, typeInfo, hi, hzz, newRow]
    rw [k1']
    simp
include hf in
theorem s_mnew {ty k el : TypeId} (ho : o.op = .makeMap ty none) (hty : P.underlying ty = some (.map k el)) (e : opA .mnew (X.ev t) h nx = some r) : Sound P o a w w0 φ S h r := by
  unfold opA at e
  simp only at e
  injection e with e
  subst e
  obtain ⟨h1, h2⟩ := hR.new' (b0 := ⟨0, 0, [], some []⟩) (w' := w.alloc (.map #[] 0)) (below_alloc' (.map #[] 0)) (hf nx (Nat.le_refl _) (Nat.lt_succ_self _)) (Nat.le_refl _) (lt_of_at' (alloc_at _)) (fun φ' h' _ hm => by cases hm) (fun φ' h' _ l hl => by
    injection hl with hl
    subst hl
    exact ⟨#[], 0, alloc_at _, rfl, fun i c e hc => by simp at hc⟩)
  refine ⟨.map (some w.heap.size), _, upd φ nx (w.heap.size, 0), .inl ?_, h1, h2, .mp _ _ _ ⟨_, upd_self _ _ _, Nat.le_refl _, fun _ => by rw [upd_self]⟩⟩
  simp [execOp, ho, Instr.makeMap]
theorem s_mset {kt : Option IntKind} {ty k el : TypeId} {x y z : Operand} {x' y' z' : X} (ho : o.op = .mapUpdate ty x y z) (hty : P.underlying ty = some (.map k el)) (hk : P.underlying k = some (keyT kt)) (hx : compX x = some x') (hy : compX y = some y') (hz : compX z = some z')
    (e : opA (.mset kt x' y' z') (X.ev t) h nx = some r) : Sound P o a w w0 φ S h r := by
  unfold opA at e
  simp only at e
  have rx := evRep ht hx
  have ry := evRep ht hy
  have rz := evRep ht hz
  generalize hvx : a.eval x = vx at rx
  generalize hvy : a.eval y = vy at ry
  generalize hvz : a.eval z = vz at rz
  split at e
  · rename_i id ver h1
    rw [h1] at rx
    split at e
    · rename_i bb hbb
      split at e
      · rename_i l hl
        split at e
        · rename_i hv
          obtain ⟨hv, hkk⟩ := hv
          cases rx
          rename_i q hq
          obtain ⟨b1, q1, q2, q3⟩ := hq
          rw [hbb] at q1
          injection q1 with q1
          subst q1
          have := q3 hv
          subst this
          obtain ⟨es, clk, z1, z2, z3⟩ := (hR.blk _ _ hbb).map l hl
          have hik := isKey_of ry hkk
          rcases hfk : kvFind (X.ev t y') l 0 with _ | f
          · rw [hfk] at e; cases e
          · rw [hfk] at e
            simp only at e
            injection e with e
            subst e
            have fin : ∀ (es' : Array MapEntry) (clk' : Nat), es'.size = (kvPut l (X.ev t y') (X.ev t z') f).length → (∀ (i : Nat) c e, (kvPut l (X.ev t y') (X.ev t z') f)[i]? = some c → es'[i]? = some e → Rep φ h S w c.1 e.key ∧ Rep φ h S w c.2 e.val) →
                (Instr.mapUpdate ty (.map (some (φ id).1)) vy vz).run P w = .ok () { w with heap := w.heap.setIfInBounds (φ id).1 (.map es' clk') } → Sound P o a w w0 φ S h ⟨.tup [], upd h id (some ⟨ver, bb.esz, [], some (kvPut l (X.ev t y') (X.ev t z') f)⟩), nx, some [id], some [id]⟩ := by
              intro es' clk' g1 g2 hrun
              obtain ⟨e1, e2⟩ := MapKept.heap_set (o' := .map es' clk') z1
              have hw := hR.write' (w' := { w with heap := w.heap.setIfInBounds (φ id).1 (.map es' clk') }) (b' := ⟨ver, bb.esz, [], some (kvPut l (X.ev t y') (X.ev t z') f)⟩) hbb (by simp; omega) (fun _ => rfl) (fun k hk => e2 k hk) rfl rfl rfl (by simp) (by
                  simp only [szOf]
                  rw [e1, z1]) (fun h' _ hm => by cases hm) (fun h' he l' hl' => by
                  injection hl' with hl'
                  subst hl'
                  exact ⟨es', clk', e1, g1, fun i c e h1 h2 => ⟨(g2 i c e h1 h2).1.ext he, (g2 i c e h1 h2).2.ext he⟩⟩)
              refine ⟨undef, _, φ, .inr ⟨?_, rfl⟩, hw.1, hw.2, .tup _ _ rfl (fun i c v hc => by simp at hc)⟩
              simp [execOp, ho, hvx, hvy, hvz, hrun]
            rcases kvFind_rep (keyT_or kt) ry hik l es.toList 0 f (by simpa using z2) (fun i c e h1 h2 => z3 i c e h1 (by simpa using h2)) hfk with ⟨rfl, h2⟩ | ⟨j, u, v, y0, rfl, h2, h3, _, h5, h6⟩
            · refine fin (es.push { key := vy, val := vz, born := clk }) (clk + 1) (by simp [kvPut, z2]) (fun i c e hc he => ?_) ?_
              · simp only [kvPut] at hc
                rw [Array.getElem?_push] at he
                by_cases hi : i < l.length
                · rw [List.getElem?_append_left hi] at hc
                  rw [if_neg (by omega)] at he
                  exact z3 i c e hc he
                · have hie : i = es.size := by
                    have := (List.getElem?_eq_some_iff.1 hc).1
                    simp at this
                    omega
                  rw [if_pos hie] at he
                  rw [List.getElem?_append_right (by omega)] at hc
                  have : i - l.length = 0 := by omega
                  rw [this] at hc
                  simp at hc he
                  subst hc he
                  exact ⟨ry, rz⟩
              · simp [Instr.mapUpdate, run_underlying hty, MapKept.run_getObj_map z1, MapKept.run_checkKey hk hik, MapKept.run_findKey hk h2, MapKept.run_setObj_map _ z1]
            · have h5' : es[j]? = some y0 := by simpa using h5
              refine fin (es.modify j fun e => { e with key := vy, val := vz }) clk (by simp [kvPut, z2]) (fun i c e hc he => ?_) ?_
              · simp only [kvPut] at hc
                rw [List.getElem?_modify] at hc
                rw [Array.getElem?_modify] at he
                by_cases hij : j = i
                · subst hij
                  simp only [if_true] at hc he
                  have hc : l[j]?.map (fun _ => (X.ev t y', X.ev t z')) = some c := hc
                  have he : es[j]?.map (fun e : MapEntry => { e with key := vy, val := vz }) = some e := he
                  rw [Option.map_eq_some_iff] at hc he
                  obtain ⟨c0, hc0, rfl⟩ := hc
                  obtain ⟨e0, he0, rfl⟩ := he
                  exact ⟨ry, rz⟩
                · simp only [if_neg hij] at hc he
                  exact z3 i c e (by simpa using hc) (by simpa using he)
              · simp [Instr.mapUpdate, run_underlying hty, MapKept.run_getObj_map z1, MapKept.run_checkKey hk hik, MapKept.run_findKey hk h2, h5', h6, MapKept.run_keyThatStays hik, MapKept.run_setObj_map _ z1]
        · cases e
      · cases e
    · cases e
  · cases e
end
end Go.Ex
