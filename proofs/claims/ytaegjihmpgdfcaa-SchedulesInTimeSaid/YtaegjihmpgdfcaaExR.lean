/- Rows that grow: a slice of one's own, and what append makes of it. -/
import Derived.Test.YtaegjihmpgdfcaaExQ
set_option linter.unusedVariables false
set_option linter.unusedSimpArgs false
namespace Go.Ex
variable {P : Program} {s : St} {x y z : X} {K : V → Hp → Nat → Option (List Nat) → Option (List Nat) → Prop}
theorem step_slc {str : Bool} {lo hi : Option X} {esz : Nat} : SI P (.slc str x lo hi esz) s K ⟨⟩ ⟨⟩ = resK (opA (.slc str x lo hi esz) (X.ev s.t) s.h s.nx) K ⟨⟩ := _root_.id rfl
theorem step_app {esz bytes : Nat} : SI P (.app esz bytes x y) s K ⟨⟩ ⟨⟩ = resK (opA (.app esz bytes x y) (X.ev s.t) s.h s.nx) K ⟨⟩ := _root_.id rfl
def appK (esz bytes : Nat) (v : V) (q : Option (Nat × List V)) (h : Hp) (nx : Nat) (ids : List Nat) (K : V → Hp → Nat → Option (List Nat) → Option (List Nat) → Prop) (_ : Hold K) : Prop := resK (appA h nx esz bytes v ids q) K ⟨⟩
@[simp] theorem step_appK {esz bytes : Nat} : SI P (.app esz bytes x y) s K ⟨⟩ ⟨⟩ = appK esz bytes (X.ev s.t x) (srcA s.h esz (X.ev s.t y)) s.h s.nx (idOf (X.ev s.t y)) K ⟨⟩ := _root_.id rfl
@[simp] theorem src_sl {h : Hp} {esz id ver off len : Nat} {cap : Option Nat} : srcA h esz (.sl id ver off len cap) = (h id).bind fun b => if b.ver = ver ∧ b.mp = none ∧ b.esz = esz ∧ off + len * esz ≤ b.cells.length then some (len, (b.cells.drop off).take (len * esz)) else none := by
  simp only [srcA, elems]
  cases h id <;> rfl
@[simp] theorem src_ro {h : Hp} {esz n : Nat} {cs : List V} : srcA h esz (.ro n cs) = if cs.length = n * esz then some (n, cs) else none := _root_.id rfl
@[simp] theorem src_ns {h : Hp} {esz : Nat} : srcA h esz .ns = some (0, []) := _root_.id rfl
@[simp] theorem src_em {h : Hp} {esz : Nat} : srcA h esz .em = some (0, []) := _root_.id rfl
@[simp] theorem src_str {h : Hp} {s : List UInt8} : srcA h 1 (.str s) = some (s.length, bytesV s) := _root_.id rfl
@[simp] theorem int_sz {k : IntKind} : (Cd.int k).sz = 1 := _root_.id rfl
@[simp] theorem int_cells {k : IntKind} {a : Int} : (Cd.int k).cells a = [.int k a] := _root_.id rfl
@[simp] theorem str_sz : Cd.str.sz = 1 := _root_.id rfl
@[simp] theorem str_cells {a : List UInt8} : Cd.str.cells a = [.str a] := _root_.id rfl
@[simp] theorem ro_em {h : Hp} {n : Nat} : toRO h n .em = some (.ro 0 []) := by cases n <;> rfl
@[simp] theorem ro_ne {h : Hp} {n : Nat} : toRO h n .ne = some (.ro 0 []) := by cases n <;> rfl
-- Slices of rows that only read.
def slcA (str : Bool) (v : V) (lo hi : Option V) (esz : Nat) : Option V := match str, v with
  | true, .str s => (loHi s.length lo hi).map fun (l, m) => .str ((s.drop l).take (m - l))
  | false, .ns => (loHi 0 lo hi).map fun _ => .ns
  | false, .em => (loHi 0 lo hi).map fun _ => .em
  | false, .ro n cs => match loHi n lo hi with
    | some (l, m) => if cs.length = n * esz then some (.ro (m - l) ((cs.drop (l * esz)).take ((m - l) * esz))) else none
    | none => none
  | _, _ => none
def slcK (str : Bool) (v : V) (lo hi : Option V) (esz : Nat) (h : Hp) (nx : Nat) (K : V → Hp → Nat → Option (List Nat) → Option (List Nat) → Prop) (_ : Hold K) : Prop := match str, v with
  | false, .sl id ver off n cap => match loHi n lo hi with
    | some (l, m) => match h id with
      | some b => resK (if b.ver = ver ∧ b.esz = esz then some ⟨.sl id ver (off + l * esz) (m - l) (cap.map (· - l)), h, nx, some [id], some []⟩ else none) K ⟨⟩
      | none => False
    | none => False
  | str, v => optK (slcA str v lo hi esz) (fun v => K v h nx (some []) (some [])) ⟨⟩
theorem step_slcV {str : Bool} {lo hi : Option X} {esz : Nat} {v : V} (h : slcA str (X.ev s.t x) (lo.map (X.ev s.t)) (hi.map (X.ev s.t)) esz = some v) : SI P (.slc str x lo hi esz) s K ⟨⟩ ⟨⟩ = K v s.h s.nx (some []) (some []) := by
  rw [step_slc]
  unfold slcA at h
  simp only [opA]
  split at h
  · rename_i s' e
    rw [Option.map_eq_some_iff] at h
    obtain ⟨⟨a, b⟩, h1, h2⟩ := h
    subst h2
    simp only [e, h1]
    rfl
  · rename_i e
    rw [Option.map_eq_some_iff] at h
    obtain ⟨⟨a, b⟩, h1, h2⟩ := h
    subst h2
    simp only [e, h1]
    rfl
  · rename_i e
    rw [Option.map_eq_some_iff] at h
    obtain ⟨⟨a, b⟩, h1, h2⟩ := h
    subst h2
    simp only [e, h1]
    rfl
  · rename_i n cs e
    split at h
    · rename_i a b h1
      split at h
      · rename_i h2
        injection h with h
        subst h
        simp only [e, h1]
        rw [if_pos h2]
        rfl
      · cases h
    · cases h
  · cases h
@[simp] theorem step_slcK {str : Bool} {lo hi : Option X} {esz : Nat} : SI P (.slc str x lo hi esz) s K ⟨⟩ ⟨⟩ = slcK str (X.ev s.t x) (lo.map (X.ev s.t)) (hi.map (X.ev s.t)) esz s.h s.nx K ⟨⟩ := by
  have gen : (∀ id ver off n cap, ¬ (str = false ∧ X.ev s.t x = .sl id ver off n cap)) → SI P (.slc str x lo hi esz) s K ⟨⟩ ⟨⟩ = optK (slcA str (X.ev s.t x) (lo.map (X.ev s.t)) (hi.map (X.ev s.t)) esz) (fun v => K v s.h s.nx (some []) (some [])) ⟨⟩ := by
    intro hn
    cases e : slcA str (X.ev s.t x) (lo.map (X.ev s.t)) (hi.map (X.ev s.t)) esz with
    | some v => rw [step_slcV e]; rfl
    | none =>
      rw [step_slc]
      have : opA (.slc str x lo hi esz) (X.ev s.t) s.h s.nx = none := by
        unfold slcA at e
        simp only [opA]
        cases str <;> cases hv : X.ev s.t x <;> simp only [hv] at e ⊢
        all_goals first
          | exact absurd ⟨rfl, hv⟩ (hn _ _ _ _ _)
          | (rw [Option.map_eq_none_iff] at e; rw [e])
          | (rename_i n cs
             cases hl : loHi n (lo.map (X.ev s.t)) (hi.map (X.ev s.t)) with
             | none => rfl
             | some p => 
               rw [hl] at e
               simp only at e ⊢
               split at e
               · cases e
               · rename_i hq; rw [if_neg hq])
      rw [this]; rfl
  cases str with
  | true =>
    rw [gen (fun _ _ _ _ _ h => by cases h.1)]
    cases X.ev s.t x <;> rfl
  | false =>
    cases hv : X.ev s.t x <;> first
      | (rw [gen (fun _ _ _ _ _ h => by rw [hv] at h; cases h.2), hv]; rfl)
      | skip
    rename_i id ver off n cap
    rw [step_slc]
    simp only [opA, hv, slcK]
    cases loHi n (lo.map (X.ev s.t)) (hi.map (X.ev s.t)) with
    | none => rfl
    | some p =>
      simp only
      cases s.h id with
      | none => rfl
      | some b => simp only
@[simp] theorem slcK_str {t : List UInt8} {lo hi : Option V} {esz : Nat} {h : Hp} {nx : Nat} : slcK true (.str t) lo hi esz h nx K ⟨⟩ = optK (slcA true (.str t) lo hi esz) (fun v => K v h nx (some []) (some [])) ⟨⟩ := _root_.id rfl
@[simp] theorem slcA_str_lo {t : List UInt8} {kk : IntKind} {n : Nat} {esz : Nat} : slcA true (.str t) (some (.int kk n)) none esz = if n ≤ t.length then some (.str (t.drop n)) else none := by
  simp only [slcA, loHi, Int.natCast_nonneg, true_and, Int.toNat_natCast]
  by_cases q : n ≤ t.length
  · rw [if_pos (by omega), if_pos q]
    simp only [Option.map_some]
    rw [List.take_of_length_le (by rw [List.length_drop]; omega)]
  · rw [if_neg (by omega), if_neg q]; rfl
@[simp] theorem slcA_str_hi {t : List UInt8} {kk : IntKind} {n : Nat} {esz : Nat} : slcA true (.str t) none (some (.int kk n)) esz = if n ≤ t.length then some (.str (t.take n)) else none := by
  simp only [slcA, loHi, Int.natCast_nonneg, true_and, Int.toNat_natCast]
  by_cases q : n ≤ t.length
  · rw [if_pos (by omega), if_pos q]
    simp
  · rw [if_neg (by omega), if_neg q]; rfl
theorem slcK_ro {n : Nat} {cs : List V} {lo hi : Option V} {esz : Nat} {h : Hp} {nx : Nat} {v : V} (e : slcA false (.ro n cs) lo hi esz = some v) : slcK false (.ro n cs) lo hi esz h nx K ⟨⟩ = K v h nx (some []) (some []) := by
  show optK (slcA false (.ro n cs) lo hi esz) _ ⟨⟩ = _
  rw [e]; rfl
theorem fl_takeN {α : Type} {d : Cd α} {l : List α} {n : Nat} (hn : n ≤ l.length) : fl d (l.take n) = (fl d l).take (n * d.sz) := by
  have h : fl d l = fl d (l.take n) ++ fl d (l.drop n) := by rw [← fl_append, List.take_append_drop]
  rw [h, List.take_left' (by rw [flat_len, List.length_take, Nat.min_eq_left hn])]
theorem fl_dropN {α : Type} {d : Cd α} {l : List α} {n : Nat} (hn : n ≤ l.length) : fl d (l.drop n) = (fl d l).drop (n * d.sz) := by
  have h : fl d l = fl d (l.take n) ++ fl d (l.drop n) := by rw [← fl_append, List.take_append_drop]
  rw [h, List.drop_left' (by rw [flat_len, List.length_take, Nat.min_eq_left hn])]
section
variable {α : Type} {d : Cd α}
/-- A row of one's own that holds l: nothing yet, or in a block below nx. -/
def Acc (d : Cd α) (h : Hp) (nx : Nat) (v : V) (l : List α) : Prop :=
  (v = .ns ∧ l = []) ∨ ∃ id ver off cap cells, v = .sl id ver off l.length cap ∧ id < nx ∧ h id = some ⟨ver, d.sz, cells, none⟩ ∧ off + l.length * d.sz ≤ cells.length ∧ (cells.drop off).take (l.length * d.sz) = fl d l
theorem Acc.nil (h : Hp) (nx : Nat) : Acc d h nx .ns [] := .inl ⟨rfl, rfl⟩
theorem Acc.mk {h : Hp} {nx id ver : Nat} {cap : Option Nat} {l : List α} (h2 : id < nx) (h3 : h id = some ⟨ver, d.sz, fl d l, none⟩) : Acc d h nx (.sl id ver 0 l.length cap) l :=
  .inr ⟨id, ver, 0, cap, fl d l, rfl, h2, h3, by rw [flat_len]; omega, by rw [List.drop_zero, List.take_of_length_le (by rw [flat_len]; omega)]⟩
theorem Acc.mono {h h' : Hp} {nx nx' : Nat} {v : V} {l : List α} (a : Acc d h nx v l) (hn : nx ≤ nx') (hh : ∀ j, j < nx → h' j = h j) : Acc d h' nx' v l := by
  rcases a with a | ⟨id, ver, off, cap, cells, h1, h2, h3, h4⟩
  · exact .inl a
  · exact .inr ⟨id, ver, off, cap, cells, h1, by omega, by rw [hh id h2]; exact h3, h4⟩
/-- Who owns it. -/
def ownOf : V → Option Nat
  | .sl id _ _ _ _ => some id
  | _ => none
theorem Acc.keep {h h' : Hp} {nx nx' : Nat} {v : V} {l : List α} (a : Acc d h nx v l) (hn : nx ≤ nx') (hh : ∀ j, j < nx → ownOf v = some j → h' j = h j) : Acc d h' nx' v l := by
  rcases a with a | ⟨id, ver, off, cap, cells, h1, h2, h3, h4⟩
  · exact .inl a
  · exact .inr ⟨id, ver, off, cap, cells, h1, by omega, by rw [hh id h2 (by rw [h1]; rfl)]; exact h3, h4⟩
theorem Acc.own {h : Hp} {nx : Nat} {v : V} {l : List α} (a : Acc d h nx v l) {j : Nat} (hj : ownOf v = some j) : j < nx := by
  rcases a with ⟨rfl, _⟩ | ⟨id, ver, off, cap, cells, rfl, h2, h3⟩
  · cases hj
  · injection hj with hj; omega
theorem Acc.len {h : Hp} {nx : Nat} {v : V} {l : List α} (a : Acc d h nx v l) : lenA false v = some (.int .i64 l.length) := by
  rcases a with ⟨rfl, rfl⟩ | ⟨id, ver, off, cap, cells, rfl, h2, h3⟩ <;> rfl
theorem Acc.elems {h : Hp} {nx : Nat} {v : V} {l : List α} (a : Acc d h nx v l) : elems h d.sz v = some (l.length, fl d l) := by
  rcases a with ⟨rfl, rfl⟩ | ⟨id, ver, off, cap, cells, rfl, h2, h3, h4, h5⟩
  · rfl
  · simp only [Ex.elems, h3]
    rw [if_pos ⟨trivial, trivial, trivial, h4⟩, h5]
theorem Acc.cell {h : Hp} {nx : Nat} {v : V} {l : List α} (a : Acc d h nx v l) {n : Nat} : cellRO h (n + 1) v = some (.ro l.length (fl d l)) := by
  rcases a with ⟨rfl, rfl⟩ | ⟨id, ver, off, cap, cells, rfl, h2, h3, h4, h5⟩
  · rfl
  · unfold cellRO
    simp only [h3]
    rw [if_pos ⟨trivial, trivial, h4⟩, h5, if_pos (fl_pure l)]
theorem Acc.isV {h : Hp} {nx : Nat} {v : V} {l : List α} (a : Acc d h nx v l) : v = .ns ∨ ∃ id ver off cap, v = .sl id ver off l.length cap := by
  rcases a with ⟨rfl, rfl⟩ | ⟨id, ver, off, cap, cells, rfl, _⟩
  · exact .inl rfl
  · exact .inr ⟨_, _, _, _, rfl⟩
theorem Acc.ro {h : Hp} {nx : Nat} {v : V} {l : List α} (a : Acc d h nx v l) {n : Nat} : toRO h (n + 1) v = some (.ro l.length (fl d l)) := by
  have hc := a.cell (n := n)
  rcases a.isV with rfl | ⟨_, _, _, _, rfl⟩ <;> exact hc
theorem Acc.ex {h : Hp} {nx : Nat} {v : V} {l : List α} (a : Acc d h nx v l) : expV h [] v = some (.ro l.length (fl d l)) := by
  have hc := a.cell (n := 7)
  rcases a.isV with rfl | ⟨_, _, _, _, rfl⟩ <;> exact hc
theorem Acc.ex1 {h : Hp} {nx : Nat} {v : V} {l : List α} (a : Acc d h nx v l) : exp1 h [] v = some (.ro l.length (fl d l)) := by
  have hc := a.cell (n := 7)
  rcases a.isV with rfl | ⟨_, _, _, _, rfl⟩ <;> exact hc
theorem Acc.src {h : Hp} {nx : Nat} {v : V} {l : List α} (a : Acc d h nx v l) : srcA h d.sz v = some (l.length, fl d l) := by
  have hc := a.elems
  rcases a.isV with rfl | ⟨_, _, _, _, rfl⟩ <;> exact hc
theorem Acc.noRef {h : Hp} {nx : Nat} {v : V} (a : Acc d h nx v []) (hn : ownOf v = none) : v = .ns := by
  rcases a.isV with rfl | ⟨_, _, _, _, rfl⟩
  · rfl
  · cases hn
/-- An element. -/
theorem Acc.at {h : Hp} {nx k : Nat} {v : V} {l : List α} {x : α} (a : Acc d h nx v l) (e : l[k]? = some x) (hp : 0 < d.sz) : ∃ id ver off, ownOf v = some id ∧ id < nx ∧ (∀ kk K, iaddrK h v (.int kk k) d.sz K ⟨⟩ = K (.pt id ver off) [id]) ∧
    ldA h (.pt id ver off) (some d.sz) = some (.agg (d.cells x)) ∧ (∀ j, j < d.sz → ldA h (.pt id ver (off + j)) none = (d.cells x)[j]?) ∧ ldA h (.pt id ver off) none = (d.cells x)[0]? := by
  have hk := (List.getElem?_eq_some_iff.1 e).1
  rcases a with ⟨rfl, rfl⟩ | ⟨id, ver, off, cap, cells, rfl, h2, h3, h4, h5⟩
  · simp at e
  · have hkl : k * d.sz + d.sz ≤ l.length * d.sz := by
      have := Nat.mul_le_mul_right d.sz (show k + 1 ≤ l.length by omega)
      rw [Nat.add_mul] at this
      omega
    have get : ∀ j, j < d.sz → cells[off + k * d.sz + j]? = (d.cells x)[j]? := fun j hj => by
      have := fl_at (l := l) (i := k) (a := x) rfl hj e
      rw [← h5, List.getElem?_take, if_pos (by omega), List.getElem?_drop, ← Nat.add_assoc] at this
      exact this
    have l1 : ∀ j, j < d.sz → ldA h (.pt id ver (off + k * d.sz + j)) none = (d.cells x)[j]? := fun j hj => by
      rw [← get j hj, ld_pt', h3]
      simp
    refine ⟨id, ver, off + k * d.sz, rfl, h2, fun kk K => ?_, ?_, l1, l1 0 hp⟩
    · simp only [iaddrK, h3, guardK]
      simp
      omega
    · rw [ld_pts', h3]
      simp only [Option.bind_some]
      rw [if_pos ⟨⟨trivial, trivial⟩, by omega⟩]
      congr 2
      apply List.ext_getElem?
      intro j
      by_cases hj : j < d.sz
      · rw [List.getElem?_take, if_pos hj, List.getElem?_drop]
        exact get j hj
      · rw [List.getElem?_eq_none (by simp; omega), List.getElem?_eq_none (by rw [d.len]; omega)]
/-- What is left of it. -/
theorem Acc.tail {h : Hp} {nx n : Nat} {v : V} {l : List α} (a : Acc d h nx v l) (hn : n ≤ l.length) (hl : 0 < l.length) : ∃ v' id, ownOf v = some id ∧ ownOf v' = some id ∧ Acc d h nx v' (l.drop n) ∧ ∀ kk nx' K, slcK false v (some (.int kk n)) none d.sz h nx' K ⟨⟩ = K v' h nx' (some [id]) (some []) := by
  rcases a with ⟨rfl, rfl⟩ | ⟨id, ver, off, cap, cells, rfl, h2, h3, h4, h5⟩
  · simp at hl
  · refine ⟨.sl id ver (off + n * d.sz) (l.length - n) (cap.map (· - n)), id, rfl, rfl, .inr ⟨id, ver, off + n * d.sz, _, cells, by rw [List.length_drop], h2, h3, ?_, ?_⟩, fun kk nx' K => ?_⟩
    · rw [List.length_drop, Nat.sub_mul]
      have := Nat.mul_le_mul_right d.sz hn
      omega
    · rw [List.length_drop]
      rw [fl_dropN hn, ← h5, List.drop_take, List.drop_drop, Nat.sub_mul]
    · simp only [slcK, loHi, Int.natCast_nonneg, true_and]
      rw [if_pos (by omega)]
      simp only [Int.toNat_natCast, h3]
      rw [if_pos ⟨trivial, trivial⟩]
      rfl
theorem Acc.init {h : Hp} {nx n : Nat} {v : V} {l : List α} (a : Acc d h nx v l) (hn : n ≤ l.length) (hl : 0 < l.length) : ∃ v' id, ownOf v = some id ∧ ownOf v' = some id ∧ Acc d h nx v' (l.take n) ∧ ∀ kk nx' K, slcK false v none (some (.int kk n)) d.sz h nx' K ⟨⟩ = K v' h nx' (some [id]) (some []) := by
  rcases a with ⟨rfl, rfl⟩ | ⟨id, ver, off, cap, cells, rfl, h2, h3, h4, h5⟩
  · simp at hl
  · have hm := Nat.mul_le_mul_right d.sz hn
    refine ⟨.sl id ver off n cap, id, rfl, rfl, .inr ⟨id, ver, off, cap, cells, by rw [List.length_take, Nat.min_eq_left hn], h2, h3, ?_, ?_⟩, fun kk nx' K => ?_⟩
    · rw [List.length_take, Nat.min_eq_left hn]
      omega
    · rw [List.length_take, Nat.min_eq_left hn]
      rw [fl_takeN hn, ← h5, List.take_take, Nat.min_eq_left hm]
    · simp only [slcK, loHi, Int.natCast_nonneg, true_and]
      rw [if_pos (by omega)]
      simp only [Int.toNat_natCast, h3, Nat.zero_mul, Nat.add_zero, Nat.sub_zero]
      rw [if_pos ⟨trivial, trivial⟩]
      have hc : cap.map (fun x => x) = cap := by cases cap <;> rfl
      rw [hc]
      rfl
/-- What append does: told by the block that it writes. -/
theorem app_accW {esz bytes : Nat} {l l' : List α} {h : Hp} {nx : Nat} {v : V} {q : Option (Nat × List V)} {ids : List Nat} (ha : Acc d h nx v l) (he : q = some (l'.length, fl d l')) (hs : d.sz = esz)
    (hb : (l.length + l'.length) * bytes ≤ 2 ^ 47) (hl : l.length + l'.length < 2 ^ 62)
    (hK : ∀ v' h' nx' rd wr, Acc d h' nx' v' (l ++ l') → nx ≤ nx' → (∀ j, j < nx → ownOf v ≠ some j → h' j = h j) → (∀ j, ownOf v' = some j → ownOf v = some j ∨ nx ≤ j) →
      (l' ≠ [] → ∃ i, rd = some (i :: ids) ∧ wr = some [i] ∧ (ownOf v = some i ∨ i = nx) ∧ (∀ j, j ≠ i → h' j = h j) ∧ ownOf v' = some i) → K v' h' nx' rd wr) : appK esz bytes v q h nx ids K ⟨⟩ := by
  subst he hs
  unfold appK
  rcases ha with ⟨hv, rfl⟩ | ⟨id, ver, off, cap, cells, hv, h2, h3, h4, h5⟩
  · simp only [appA, hv]
    simp only [List.length_nil, Nat.zero_add] at hb hl
    rw [if_pos ⟨hb, hl⟩]
    split
    · rename_i h0
      have : l' = [] := List.eq_nil_of_length_eq_zero h0
      subst this
      exact hK _ _ _ _ _ (.nil _ _) (Nat.le_refl _) (fun _ _ _ => rfl) (fun j h => by cases h) (fun h => absurd rfl h)
    · refine hK _ _ _ _ _ (.mk (Nat.lt_succ_self _) (by simp [upd])) (Nat.le_succ _) (fun j hj _ => ?_) (fun j h => by injection h with h; exact .inr (by omega)) (fun _ => ⟨nx, rfl, rfl, .inr rfl, fun j hj => by simp only [upd]; rw [if_neg hj], rfl⟩)
      simp only [upd]; rw [if_neg (by omega)]
  · simp only [appA, hv, h3]
    rw [if_pos ⟨trivial, trivial, trivial, h4, hb, hl⟩, h5]
    have e : l.length + l'.length = (l ++ l').length := by simp
    rw [e]
    refine hK _ _ _ _ _ (.mk h2 (by simp [upd, fl_append])) (Nat.le_refl _) (fun j hj hne => ?_) (fun j h => by injection h with h; rw [hv]; exact .inl (by rw [← h]; rfl)) (fun _ => ⟨id, rfl, rfl, .inl (by rw [hv]; rfl), fun j hj => by simp only [upd]; rw [if_neg hj], rfl⟩)
    simp only [upd]
    rw [if_neg (fun q => hne (by rw [hv, q]; rfl))]
/-- What append does. -/
theorem app_acc {esz bytes : Nat} {l l' : List α} {h : Hp} {nx : Nat} {v : V} {q : Option (Nat × List V)} {ids : List Nat} (ha : Acc d h nx v l) (he : q = some (l'.length, fl d l')) (hs : d.sz = esz)
    (hb : (l.length + l'.length) * bytes ≤ 2 ^ 47) (hl : l.length + l'.length < 2 ^ 62)
    (hK : ∀ v' h' nx', Acc d h' nx' v' (l ++ l') → nx ≤ nx' → (∀ j, j < nx → ownOf v ≠ some j → h' j = h j) → (∀ j, ownOf v' = some j → ownOf v = some j ∨ nx ≤ j) → K v' h' nx' none none)
    (hm : ∀ v h nx rd wr, K v h nx none none → K v h nx rd wr := by exact fun _ _ _ _ _ h => h) : appK esz bytes v q h nx ids K ⟨⟩ :=
  app_accW ha he hs hb hl fun v' h' nx' rd wr h1 h2 h3 h4 _ => hm _ _ _ _ _ (hK v' h' nx' h1 h2 h3 h4)
end
theorem slc_ro_hi {α : Type} {d : Cd α} {l : List α} {n esz : Nat} {kk : IntKind} (hs : d.sz = esz) (hn : n ≤ l.length) : slcA false (.ro l.length (fl d l)) none (some (.int kk n)) esz = some (.ro (l.take n).length (fl d (l.take n))) := by
  subst hs
  have hd := fl_takeN (d := d) hn
  simp only [slcA, loHi, Int.natCast_nonneg, true_and]
  rw [if_pos (by omega)]
  simp only [Int.toNat_natCast]
  rw [if_pos (flat_len l), hd, List.length_take, Nat.min_eq_left hn]
  simp
theorem slc_ro_lo {α : Type} {d : Cd α} {l : List α} {n esz : Nat} {kk : IntKind} (hs : d.sz = esz) (hn : n ≤ l.length) : slcA false (.ro l.length (fl d l)) (some (.int kk n)) none esz = some (.ro (l.drop n).length (fl d (l.drop n))) := by
  subst hs
  have hd := fl_dropN (d := d) hn
  simp only [slcA, loHi, Int.natCast_nonneg, true_and]
  rw [if_pos (by omega)]
  simp only [Int.toNat_natCast]
  rw [if_pos (flat_len l), hd, List.length_drop]
  congr 2
  rw [List.take_of_length_le]
  rw [List.length_drop, flat_len, Nat.sub_mul]
  omega
end Go.Ex
