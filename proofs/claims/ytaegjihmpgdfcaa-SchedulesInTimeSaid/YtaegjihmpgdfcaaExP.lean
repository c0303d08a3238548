/- What is read of an argument: numbers, bools, strings, slices and structs of these, as pure values. -/
import Derived.Test.YtaegjihmpgdfcaaExM
import Derived.Deep.Slices
import Derived.Lib.SmallJoins
import Derived.SizedLaws
import Derived.WideShapes
set_option linter.unusedVariables false
set_option linter.unusedSimpArgs false
namespace Go.Ex
open Go.RowKit Go.ChangeShapes Go.WideShapes Go.Deep
/-- How values of a type are told in cells. -/
structure Cd (α : Type) where
  sz : Nat
  cells : α → List V
  len : ∀ a, (cells a).length = sz
  pure : ∀ a, V.pureL (cells a) = true
def Cd.int (k : IntKind) : Cd Int := ⟨1, fun n => [.int k n], fun _ => rfl, fun _ => rfl⟩
def Cd.bool : Cd Bool := ⟨1, fun b => [.bool b], fun _ => rfl, fun _ => rfl⟩
def Cd.str : Cd (List UInt8) := ⟨1, fun s => [.str s], fun _ => rfl, fun _ => rfl⟩
theorem pureL_append {l m : List V} (h1 : V.pureL l = true) (h2 : V.pureL m = true) : V.pureL (l ++ m) = true :=
  pureL_iff.2 fun v hv => (List.mem_append.1 hv).elim (pureL_iff.1 h1 v) (pureL_iff.1 h2 v)
theorem pureL_flatMap {α : Type} {f : α → List V} {l : List α} (h : ∀ a ∈ l, V.pureL (f a) = true) : V.pureL (l.flatMap f) = true :=
  pureL_iff.2 fun v hv => by
    obtain ⟨a, ha, hva⟩ := List.mem_flatMap.1 hv
    exact pureL_iff.1 (h a ha) v hva
/-- The cells of a row of elements. -/
def fl {α : Type} (d : Cd α) (l : List α) : List V := l.flatMap d.cells
def Cd.slice {α : Type} (d : Cd α) : Cd (List α) := ⟨1, fun l => [.ro l.length (fl d l)], fun _ => rfl, fun l => by
  simp only [V.pureL, V.pure, Bool.and_true]
  exact pureL_flatMap fun a _ => d.pure a⟩
def Cd.pair {α β : Type} (d : Cd α) (e : Cd β) : Cd (α × β) := ⟨d.sz + e.sz, fun a => d.cells a.1 ++ e.cells a.2, fun a => by simp [d.len, e.len], fun a => pureL_append (d.pure _) (e.pure _)⟩
def Cd.iso {α β : Type} (d : Cd α) (f : β → α) : Cd β := ⟨d.sz, fun b => d.cells (f b), fun b => d.len _, fun b => d.pure _⟩
/-- Cells of the world are these values. -/
def CRep (w : World) (us : List V) (cs : List Value) : Prop :=
  us.length = cs.length ∧ ∀ (i : Nat) u v, us[i]? = some u → cs[i]? = some v → (∀ φ h, Rep φ h (fun b => b < w.heap.size) w u v) ∧ v.oneCell' = true
/-- Whatever reads as data of type t is of the kind d, and within its bounds. -/
def Opens {α : Type} (P : Program) (d : Cd α) (t : TypeId) (ok : α → Prop) : Prop :=
  ∀ (H : Type) (enc : TypeId × Value → H) (w : World) (base : Nat) (spare : Nat → Bool) (held : Bool) (fuel : Nat) (cs : List Value) (D : DataW H) (ps : List MemPlace),
    DataW.trod enc P w base spare held fuel t cs = some (D, ps) → (∀ n ∈ D.weights P t, n ≤ reachBytes) → ∃ a, CRep w (d.cells a) cs ∧ ok a
variable {P : Program}
theorem crep_one {w : World} {u : V} {v : Value} (h : ∀ φ h, Rep φ h (fun b => b < w.heap.size) w u v) (h1 : v.oneCell' = true) : CRep w [u] [v] := by
  refine ⟨rfl, fun i a b ha hb => ?_⟩
  cases i with
  | zero => simp at ha hb; subst ha; subst hb; exact ⟨h, h1⟩
  | succ i => simp at ha
theorem opens_int {k : IntKind} {t : TypeId} (ht : P.underlying t = some (.int k)) : Opens P (Cd.int k) t (fun x => (Lit.int k x).wf = true) := by
  intro H enc w base spare held fuel cs D ps h _
  obtain ⟨n, rfl, _, hw⟩ := DataW.trod_int ht h
  exact ⟨n, crep_one (fun _ _ => .int k n) rfl, hw⟩
theorem opens_bool {t : TypeId} (ht : P.underlying t = some .bool) : Opens P Cd.bool t (fun _ => True) := by
  intro H enc w base spare held fuel cs D ps h _
  obtain ⟨b, rfl, _⟩ := DataW.trod_bool ht h
  exact ⟨b, crep_one (fun _ _ => .bool b) rfl, trivial⟩
theorem opens_string {t : TypeId} (ht : P.underlying t = some .string) : Opens P Cd.str t (fun s => s.length ≤ 140737488351232) := by
  intro H enc w base spare held fuel cs D ps h hw
  obtain ⟨s, rfl, hx, _⟩ := DataW.trod_string ht h
  obtain ⟨rfl, _⟩ := Prod.mk.inj hx
  refine ⟨s.data.toList, crep_one (fun _ _ => .str s) rfl, ?_⟩
  have := hw s.data.toList.length (by simp [DataW.weights])
  simpa [reachBytes] using this
theorem weightsAll_mem {H : Type} {e : TypeId} {d : DataW H} {n : Nat} (hn : n ∈ d.weights P e) : ∀ {l : List (DataW H)}, d ∈ l → n ∈ DataW.weightsAll P e l
  | x :: l, hd => by
    rw [DataW.weightsAll]
    rcases List.mem_cons.mp hd with rfl | hd
    · exact List.mem_append_left _ hn
    · exact List.mem_append_right _ (weightsAll_mem hn hd)
theorem list_of {α : Type} {p : Nat → α → Prop} : ∀ (n : Nat), (∀ i, i < n → ∃ a, p i a) → ∃ l : List α, l.length = n ∧ ∀ (i : Nat) a, l[i]? = some a → p i a
  | 0, _ => ⟨[], rfl, fun i a h => by simp at h⟩
  | n + 1, h => by
    obtain ⟨l, hl, hp⟩ := list_of n (fun i hi => h i (by omega))
    obtain ⟨a, ha⟩ := h n (by omega)
    refine ⟨l ++ [a], by simp [hl], fun i b hb => ?_⟩
    rcases Nat.lt_trichotomy i n with hi | hi | hi
    · rw [List.getElem?_append_left (by omega)] at hb
      exact hp i b hb
    · subst hi
      rw [List.getElem?_append_right (by omega)] at hb
      simp [hl] at hb
      subst hb; exact ha
    · rw [List.getElem?_eq_none (by simp; omega)] at hb
      cases hb
theorem fl_nil {α : Type} {d : Cd α} : fl d [] = [] := rfl
theorem fl_cons {α : Type} {d : Cd α} (a : α) (l : List α) : fl d (a :: l) = d.cells a ++ fl d l := by simp [fl]
theorem fl_append {α : Type} {d : Cd α} (l m : List α) : fl d (l ++ m) = fl d l ++ fl d m := by simp [fl]
theorem flat_len {α : Type} {d : Cd α} : ∀ l : List α, (fl d l).length = l.length * d.sz
  | [] => by simp [fl]
  | a :: l => by rw [fl_cons]; simp [d.len, flat_len l, Nat.add_mul, Nat.add_comm]
/-- The cells of an element. -/
theorem flat_get {α : Type} {d : Cd α} : ∀ (l : List α) (i j : Nat), j < d.sz → (fl d l)[i * d.sz + j]? = (l[i]?).bind fun a => (d.cells a)[j]?
  | [], i, j, hj => by simp [fl]
  | a :: l, 0, j, hj => by
    have := d.len a
    rw [fl_cons]
    simp only [Nat.zero_mul, Nat.zero_add, List.getElem?_cons_zero, Option.bind_some]
    rw [List.getElem?_append_left (by omega)]
  | a :: l, i + 1, j, hj => by
    have := d.len a
    have he : (i + 1) * d.sz + j = d.sz + (i * d.sz + j) := by rw [Nat.add_mul]; omega
    rw [fl_cons]
    simp only [List.getElem?_cons_succ]
    rw [List.getElem?_append_right (by omega), he, this, Nat.add_sub_cancel_left]
    exact flat_get l i j hj
theorem fl_take {α : Type} {d : Cd α} {l : List α} {i n : Nat} {a : α} (hn : d.sz = n) (h : l[i]? = some a) : ((fl d l).drop (i * n)).take n = d.cells a := by
  subst hn
  apply List.ext_getElem?
  intro j
  rw [List.getElem?_take, List.getElem?_drop]
  split
  · rename_i hj
    rw [flat_get l i j hj, h]
    rfl
  · rename_i hj
    rw [List.getElem?_eq_none]
    rw [d.len]; omega
theorem fl_at {α : Type} {d : Cd α} {l : List α} {i n j : Nat} {a : α} (hn : d.sz = n) (hj : j < n) (h : l[i]? = some a) : (fl d l)[i * n + j]? = (d.cells a)[j]? := by
  subst hn
  rw [flat_get l i j hj, h]
  rfl
theorem fl_le {α : Type} {d : Cd α} {l : List α} {i n : Nat} {a : α} (hn : d.sz = n) (h : l[i]? = some a) : i * n + n ≤ (fl d l).length := by
  subst hn
  rw [flat_len]
  have := (List.getElem?_eq_some_iff.1 h).1
  have := Nat.mul_le_mul_right d.sz (show i + 1 ≤ l.length by omega)
  rw [Nat.add_mul] at this
  omega
theorem fl_pure {α : Type} {d : Cd α} (l : List α) : V.pureL (fl d l) = true := pureL_flatMap fun a _ => d.pure a
theorem cell_inv {w : World} {p : Addr} {v : Value} (h : w.cell? p = some v) : p.spot = none ∧ ∃ arr el fz, w.heap[p.block]? = some (.cells arr el fz) ∧ arr[p.off]? = some v := by
  unfold World.cell? at h
  split at h
  · rename_i c e fz hb
    split at h
    · cases h
    · rename_i hs
      exact ⟨by simpa using hs, c, e, fz, hb, h⟩
  · cases h
theorem opens_slice {α : Type} {d : Cd α} {t e : TypeId} {ok : α → Prop} (b : Nat) (ht : P.underlying t = some (.slice e)) (hd : Opens P d e ok) (hc : P.cellsOf e = d.sz) (hb : P.bytesOf e = b) (hpos : 0 < d.sz) :
    Opens P d.slice t (fun xs => xs.length * b ≤ 140737488351232 ∧ xs.length < 2 ^ 63 ∧ ∀ x ∈ xs, ok x) := by
  intro H enc w base spare held fuel cs D ps h hw
  rcases open_slice ht h with ⟨rfl, _⟩ | ⟨a, len, cap, m, n, De, Pl, rfl, hb0, hl, hm, hmm, hx, he⟩
  · exact ⟨[], crep_one (fun _ _ => .roN) rfl, by simp, by simp, by simp⟩
  · obtain ⟨rfl, _⟩ := Prod.mk.inj hx
    have hlm : len ≤ m := by rw [hmm]; split <;> omega
    rw [DataW.weights, ht] at hw
    simp only at hw
    have hw0 := hw _ List.mem_cons_self
    have hel : ∀ i, i < len → ∃ x : α, ok x ∧ ∀ j u, (d.cells x)[j]? = some u → ∃ v, w.cell? (a.add (i * d.sz + j)) = some v ∧ (∀ φ h, Rep φ h (fun b => b < w.heap.size) w u v) ∧ v.oneCell' = true := by
      intro i hi
      obtain ⟨c, h1, h2⟩ := he i (by omega)
      obtain ⟨_, hlen, hcell⟩ := World.cells?_some h1
      obtain ⟨x, hK, hok⟩ := hd H enc w base spare held n c _ _ h2 (fun q hq => hw q (List.mem_cons_of_mem _ (List.mem_append_left _ (weightsAll_mem hq (List.mem_map_of_mem (f := De) (List.mem_range.mpr hi))))))
      refine ⟨x, hok, fun j u hu => ?_⟩
      have hj : j < d.sz := by rw [← d.len x]; exact (List.getElem?_eq_some_iff.1 hu).1
      have hjc : j < c.length := by rw [hlen, hc]; exact hj
      have := hcell j (by rw [hc]; exact hj)
      rw [Addr.add_add, List.getElem?_eq_getElem hjc, hc] at this
      obtain ⟨r1, r2⟩ := hK.2 j u c[j] hu (List.getElem?_eq_getElem hjc)
      exact ⟨c[j], this, r1, r2⟩
    obtain ⟨xs, hxl, hxs⟩ := list_of len hel
    have hcells : ∀ (k : Nat) u, (fl d xs)[k]? = some u → ∃ v, w.cell? (a.add k) = some v ∧ (∀ φ h, Rep φ h (fun b => b < w.heap.size) w u v) ∧ v.oneCell' = true := by
      intro k u hu
      have hk : k / d.sz * d.sz + k % d.sz = k := Nat.div_add_mod' k d.sz
      rw [← hk, flat_get xs _ _ (Nat.mod_lt _ hpos)] at hu
      obtain ⟨x, hx, hu⟩ := Option.bind_eq_some_iff.1 hu
      have := (hxs _ x hx).2 _ u hu
      rwa [hk] at this
    refine ⟨xs, crep_one (fun φ hh => ?_) rfl, ?_, ?_, fun x hx => ?_⟩
    · rw [hxl]
      have hp : V.pureL (fl d xs) = true := pureL_flatMap fun x _ => d.pure x
      by_cases hnil : fl d xs = []
      · rw [hnil]
        exact .ro len [] a cap #[] (by omega) rfl (fun hne => absurd rfl hne) (fun i x v hx => by simp at hx)
      · have h0 : 0 < (fl d xs).length := List.length_pos_iff.2 hnil
        obtain ⟨v0, hv0, _⟩ := hcells 0 _ (List.getElem?_eq_getElem h0)
        have hadd0 : a.add 0 = a := rfl
        rw [hadd0] at hv0
        obtain ⟨hs, arr, el, fz, hblk, _⟩ := cell_inv hv0
        have hadd : ∀ k, a.add k = ⟨a.block, a.off + k, none⟩ := by
          intro k; cases a; simp at hs; subst hs; exact add_none ..
        have hat : ∀ (k : Nat) u, (fl d xs)[k]? = some u → ∃ v, arr[a.off + k]? = some v ∧ (∀ φ h, Rep φ h (fun b => b < w.heap.size) w u v) ∧ v.oneCell' = true := by
          intro k u hu
          obtain ⟨v, hv, r⟩ := hcells k u hu
          rw [hadd, cell_at hblk] at hv
          exact ⟨v, hv, r⟩
        have hlast := hat ((fl d xs).length - 1) _ (List.getElem?_eq_getElem (by omega))
        obtain ⟨vl, hvl, _⟩ := hlast
        have hsz := (Array.getElem?_eq_some_iff.1 hvl).1
        refine .ro len _ a cap (arr.extract a.off (a.off + (fl d xs).length)) (by omega) hp (fun _ => ⟨hs, lt_of_at hblk, arr, el, fz, hblk, by omega, rfl, fun i v hi hv => ?_⟩) (fun i x v hx hv => ?_)
        · obtain ⟨v', hv', r⟩ := hat i _ (List.getElem?_eq_getElem hi)
          rw [hv] at hv'
          injection hv' with hv'
          subst hv'
          exact r.2
        · rw [Array.getElem?_extract] at hv
          split at hv
          · obtain ⟨v', hv', r⟩ := hat i x hx
            rw [hv] at hv'
            injection hv' with hv'
            subst hv'
            exact r.1 φ hh
          · cases hv
    · rw [hxl]
      simp only [List.length_map, List.length_range, hb, reachBytes] at hw0
      exact Nat.le_trans (Nat.mul_le_mul_right _ (by omega)) hw0
    · simp only [maxLen] at hm; omega
    · obtain ⟨i, hi, rfl⟩ := List.getElem_of_mem hx
      exact (hxs i _ (List.getElem?_eq_getElem hi)).1
/-- A struct's fields, from an offset on. -/
def OpensF {α : Type} (P : Program) (d : Cd α) (fs : List Field) (off : Nat) (ok : α → Prop) : Prop :=
  ∀ (H : Type) (enc : TypeId × Value → H) (w : World) (base : Nat) (spare : Nat → Bool) (held : Bool) (n : Nat) (cs : List Value) (ys : List (DataW H × List MemPlace)),
    cs.length = off + d.sz → ys.length = fs.length → (∀ (i : Nat) (f : Field), fs[i]? = some f → DataW.trod enc P w base spare held n f.type ((cs.drop f.offset).take (P.cellsOf f.type)) = ys[i]?) →
    (∀ m ∈ DataW.weightsEach P (fs.map (·.type)) (ys.map (·.1)), m ≤ reachBytes) → ∃ a, CRep w (d.cells a) (cs.drop off) ∧ ok a
theorem opensF_one {α : Type} {d : Cd α} {f : Field} {off : Nat} {ok : α → Prop} (hd : Opens P d f.type ok) (ho : f.offset = off) (hc : P.cellsOf f.type = d.sz) : OpensF P d [f] off ok := by
  intro H enc w base spare held n cs ys hl hy h hw
  match ys, hy with
  | [y], _ =>
    have h0 := h 0 f rfl
    rw [ho, hc, List.take_of_length_le (by rw [List.length_drop]; omega)] at h0
    exact hd H enc w base spare held n _ _ _ h0 (fun m hm => hw m (by simp [DataW.weightsEach]; exact hm))
theorem CRep.append {w : World} {us us' : List V} {cs cs' : List Value} (h : CRep w us cs) (h' : CRep w us' cs') : CRep w (us ++ us') (cs ++ cs') := by
  refine ⟨by simp [h.1, h'.1], fun i u v hu hv => ?_⟩
  by_cases hi : i < us.length
  · rw [List.getElem?_append_left hi] at hu
    rw [List.getElem?_append_left (by rw [← h.1]; exact hi)] at hv
    exact h.2 i u v hu hv
  · rw [List.getElem?_append_right (by omega)] at hu
    rw [List.getElem?_append_right (by rw [← h.1]; omega), ← h.1] at hv
    exact h'.2 _ u v hu hv
theorem opensF_cons {α β : Type} {d : Cd α} {d' : Cd β} {f : Field} {fs : List Field} {off : Nat} {ok : α → Prop} {ok' : β → Prop} (hd : Opens P d f.type ok) (ho : f.offset = off) (hc : P.cellsOf f.type = d.sz) (hr : OpensF P d' fs (off + d.sz) ok') :
    OpensF P (Cd.pair d d') (f :: fs) off (fun x => ok x.1 ∧ ok' x.2) := by
  intro H enc w base spare held n cs ys hl hy h hw
  match ys, hy with
  | y :: ys, hy =>
    have h0 := h 0 f rfl
    rw [ho, hc] at h0
    have hz : (Cd.pair d d').sz = d.sz + d'.sz := rfl
    obtain ⟨a, hK, hok⟩ := hd H enc w base spare held n _ _ _ h0 (fun m hm => hw m (by simp [DataW.weightsEach]; exact .inl hm))
    obtain ⟨b, hK', hok'⟩ := hr H enc w base spare held n cs ys (by omega) (by simpa using hy) (fun i g hg => h (i + 1) g hg) (fun m hm => hw m (by simp only [List.map_cons, DataW.weightsEach]; exact List.mem_append_right _ hm))
    refine ⟨(a, b), ?_, hok, hok'⟩
    have := (List.take_append_drop d.sz (cs.drop off)).symm
    rw [List.drop_drop] at this
    rw [this]
    exact hK.append hK'
theorem opens_struct {α β : Type} {d : Cd α} {f : β → α} {t : TypeId} {fs : Array Field} {ok : α → Prop} (ht : P.underlying t = some (.struct fs)) (hc : P.cellsOf t = d.sz) (hf : OpensF P d fs.toList 0 ok) (hs : ∀ a, ∃ x, f x = a) :
    Opens P (Cd.iso d f) t (fun x => ok (f x)) := by
  intro H enc w base spare held fuel cs D ps h hw
  obtain ⟨xs, n, rfl, hx, hl, hlen, hfs⟩ := DataW.trod_struct ht h
  obtain ⟨rfl, _⟩ := Prod.mk.inj hx
  rw [DataW.weights, ht] at hw
  simp only at hw
  obtain ⟨a, hK, hok⟩ := hf H enc w base spare held n cs xs (by omega) (by simpa using hlen) (fun i g hg => hfs i g (by simpa using hg)) hw
  obtain ⟨x, rfl⟩ := hs a
  rw [List.drop_zero] at hK
  exact ⟨x, hK, hok⟩
/-- A struct told by its fields in a row. -/
theorem opens_fields {α : Type} {d : Cd α} {t : TypeId} {fs : Array Field} {ok : α → Prop} (ht : P.underlying t = some (.struct fs)) (hc : P.cellsOf t = d.sz) (hf : OpensF P d fs.toList 0 ok) : Opens P d t ok := by
  have := opens_struct (f := fun a => a) ht hc hf fun a => ⟨a, rfl⟩
  exact this
/-- A parameter of a row, opened. -/
theorem param_open {α : Type} {d : Cd α} {t : TypeId} {ok : α → Prop} (hO : Opens P d t ok) {H : Type} {enc : TypeId × Value → H} {W : World} {base : Nat} {spare : Nat → Bool} {held : Bool} {v : Value} {D : DataW H} {ps : List MemPlace} {ts : List TypeId} {ds : List (DataW H)} {j : Nat}
    (hsz : (DataW.weightsEach P ts ds).all (· ≤ reachBytes) = true) (ht : ts[j]? = some t) (hd : ds[j]? = some D) (h : DataW.Trod enc P W base spare held t v D ps) : ∃ a, CRep W (d.cells a) v.cells.toList ∧ ok a := by
  obtain ⟨fuel, hf⟩ := h
  refine hO H enc W base spare held fuel _ _ _ hf (fun n hn => ?_)
  have := List.all_eq_true.1 hsz _ (DataW.weights_mem_each ht hd n hn)
  simpa using this
/-- One cell. -/
theorem CRep.one {W : World} {u : V} {v : Value} (h : CRep W [u] v.cells.toList) (hv : v.oneCell' = true) (φ : Nat → Nat × Nat) : Rep φ none0 (fun b => b < W.heap.size) W u v := by
  cases v <;> first | (exact (h.2 0 _ _ rfl rfl).1 φ none0) | (cases hv; done)
/-- A struct. -/
theorem CRep.agg {W : World} {us : List V} {v : Value} {t : TypeId} {fs : Array Field} {r : Reach} {b0 : Nat} (h : CRep W us v.cells.toList) (hs : P.underlying t = some (.struct fs)) (hv : Value.okWide P W r b0 t v) (φ : Nat → Nat × Nat) : Rep φ none0 (fun b => b < W.heap.size) W (.agg us) v := by
  obtain ⟨ws, rfl, _⟩ := okWide_struct hs hv
  simp only [Value.cells] at h
  exact .agg us ws (by have := h.1; simp at this; omega) (fun i v hv => by
    have hi : i < us.length := by
      have := (Array.getElem?_eq_some_iff.1 hv).1
      have := h.1
      simp at this
      omega
    exact (h.2 i _ v (List.getElem?_eq_getElem hi) (by simpa using hv)).2) fun i c v hc hv => (h.2 i c v hc (by simpa using hv)).1 φ none0
theorem reps_of {φ : Nat → Nat × Nat} {h : Hp} {S : Nat → Prop} {w : World} (l : List (V × Value)) (hl : ∀ p ∈ l, Rep φ h S w p.1 p.2) : Reps φ h S w (l.map (·.1)) (l.map (·.2)).toArray := by
  refine ⟨by simp, fun i c v hc hv => ?_⟩
  rw [List.getElem?_map, Option.map_eq_some_iff] at hc
  obtain ⟨p, hp, rfl⟩ := hc
  rw [List.getElem?_toArray, List.getElem?_map, hp] at hv
  simp at hv
  subst hv
  exact hl p (List.mem_of_getElem? hp)
/-- The program has none of the library's variables. -/
def gNone (_ : Program) : Bool := true
theorem gok_none {W : World} (_ : gNone P = true) : GOk P W := trivial
/-- A law that holds, as a row wants it. -/
theorem law_trueG {f : Nat} {args : List V} {vs : Array Value} {W : World} (hg : GOk P W) (h : OkF P f args (.bool true, [])) (hr : Reps (fun _ => (0, 0)) none0 (fun b => b < W.heap.size) W args vs) :
    Calls P f vs W fun e W' => e = .returned (.bool true) ∧ Below W.heap.size W W' := by
  refine (h.2 W _ _ vs hg (fun _ x => x) hr).mono fun e w' he => ?_
  obtain ⟨x, φ, S', rfl, h1, _, _, h2⟩ := he
  cases h2
  exact ⟨rfl, h1.below⟩
theorem law_true {f : Nat} {args : List V} {vs : Array Value} {W : World} (h : OkF P f args (.bool true, [])) (hr : Reps (fun _ => (0, 0)) none0 (fun b => b < W.heap.size) W args vs) (hg : gNone P = true := by kernel_rfl) :
    Calls P f vs W fun e W' => e = .returned (.bool true) ∧ Below W.heap.size W W' := law_trueG (gok_none hg) h hr
end Go.Ex
