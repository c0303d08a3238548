/- What is read of an argument of any printed kind: numbers, bools, strings, slices and structs of these: a Lean value, and its bounds. Written by this session. -/
import Derived.Deep.Slices
import Derived.Lib.SmallJoins
import Derived.SizedLaws
import Derived.WideShapes
import Derived.Test.YtionejclfbdlmaaWWords
set_option linter.unusedVariables false
set_option linter.unusedSimpArgs false
namespace Go.Proofs.Ytionejclfbdlmaa.Opens
open Go.RowKit Go.Proofs.YtionejclfbdlmaaW.PrintWords Go.ChangeShapes Go.WideShapes Go.Deep
/-- Whatever reads as data of type t is of the kind d, and within its bounds. -/
def Opens {α : Type} (P : Program) (d : Kd α) (t : TypeId) (ok : α → Prop) : Prop :=
  ∀ (H : Type) (enc : TypeId × Value → H) (w : World) (base : Nat) (spare : Nat → Bool) (held : Bool) (fuel : Nat) (cs : List Value) (D : DataW H) (ps : List MemPlace),
    DataW.trod enc P w base spare held fuel t cs = some (D, ps) → (∀ n ∈ D.weights P t, n ≤ reachBytes) → ∃ a, d.K w a cs ∧ ok a
variable {P : Program}
theorem opens_int {k : IntKind} {t : TypeId} (ht : P.underlying t = some (.int k)) : Opens P (Kd.int k) t (fun x => (Lit.int k x).wf = true) := by
  intro H enc w base spare held fuel cs D ps h _
  obtain ⟨n, rfl, _, hw⟩ := DataW.trod_int ht h
  exact ⟨n, rfl, hw⟩
theorem opens_bool {t : TypeId} (ht : P.underlying t = some .bool) : Opens P Kd.bool t (fun _ => True) := by
  intro H enc w base spare held fuel cs D ps h _
  obtain ⟨b, rfl, _⟩ := DataW.trod_bool ht h
  exact ⟨b, rfl, trivial⟩
theorem opens_string {t : TypeId} (ht : P.underlying t = some .string) : Opens P Kd.string t (fun s => s.size ≤ 140737488351232) := by
  intro H enc w base spare held fuel cs D ps h hw
  obtain ⟨s, rfl, hx, _⟩ := DataW.trod_string ht h
  obtain ⟨rfl, _⟩ := Prod.mk.inj hx
  refine ⟨s, rfl, ?_⟩
  have := hw s.data.toList.length (by simp [DataW.weights])
  simpa [reachBytes] using this
theorem weightsAll_mem {H : Type} {e : TypeId} {d : DataW H} {n : Nat} (hn : n ∈ d.weights P e) : ∀ {l : List (DataW H)}, d ∈ l → n ∈ DataW.weightsAll P e l
  | x :: l, hd => by
    rw [DataW.weightsAll]
    rcases List.mem_cons.mp hd with rfl | hd
    · exact List.mem_append_left _ hn
    · exact List.mem_append_right _ (weightsAll_mem hn hd)
theorem list_of {α : Type} {p : Nat → α → Prop} : ∀ (n : Nat), (∀ i, i < n → ∃ a, p i a) → ∃ l : List α, l.length = n ∧ ∀ i a, l[i]? = some a → p i a
  | 0, _ => ⟨[], rfl, fun i a h => by simp at h⟩
  | n + 1, h => by
    obtain ⟨l, hl, hp⟩ := list_of n (fun i hi => h i (by omega))
    obtain ⟨a, ha⟩ := h n (by omega)
    refine ⟨l ++ [a], by simp [hl], fun i b hb => ?_⟩
    rcases Nat.lt_trichotomy i n with hi | hi | hi
    · rw [List.getElem?_append_left (by omega)] at hb
      exact hp i b hb
    · subst hi
      rw [List.getElem?_append_right (by omega)] at hb
      simp [hl] at hb
      subst hb; exact ha
    · rw [List.getElem?_eq_none (by simp; omega)] at hb
      cases hb
theorem opens_slice {α : Type} {d : Kd α} {t e : TypeId} {ok : α → Prop} (b : Nat) (ht : P.underlying t = some (.slice e)) (hd : Opens P d e ok) (hc : P.cellsOf e = d.sz) (hb : P.bytesOf e = b) (e' : Nat) :
    Opens P (Kd.slice e' d) t (fun xs => xs.length ≤ maxLen ∧ xs.length * b ≤ 140737488351232 ∧ ∀ x ∈ xs, ok x) := by
  intro H enc w base spare held fuel cs D ps h hw
  rcases open_slice ht h with ⟨rfl, _⟩ | ⟨a, len, cap, m, n, De, Pl, rfl, hb0, hl, hm, hmm, hx, he⟩
  · exact ⟨[], ⟨none, 0, rfl, Nat.le_refl _, rfl, by simp, fun h => absurd h (Nat.lt_irrefl 0)⟩, by simp, by simp, by simp⟩
  · obtain ⟨rfl, _⟩ := Prod.mk.inj hx
    have hlm : len ≤ m := by rw [hmm]; split <;> omega
    rw [DataW.weights, ht] at hw
    simp only at hw
    have hw0 := hw _ List.mem_cons_self
    have hel : ∀ i, i < len → ∃ x : α, ok x ∧ ∃ c, c.length = d.sz ∧ d.K w x c ∧ ∀ j u, c[j]? = some u → w.cell? (a.add (i * d.sz + j)) = some u := by
      intro i hi
      obtain ⟨c, h1, h2⟩ := he i (by omega)
      obtain ⟨_, hlen, hcell⟩ := World.cells?_some h1
      obtain ⟨x, hK, hok⟩ := hd H enc w base spare held n c _ _ h2 (fun q hq => hw q (List.mem_cons_of_mem _ (List.mem_append_left _ (weightsAll_mem hq (List.mem_map_of_mem (f := De) (List.mem_range.mpr hi))))))
      refine ⟨x, hok, c, d.K_len hK, hK, fun j u hu => ?_⟩
      have hj : j < P.cellsOf e := by
        rw [← hlen]
        exact (List.getElem?_eq_some_iff.1 hu).1
      have := hcell j hj
      rw [Addr.add_add] at this
      rw [← hc, this, hu]
    obtain ⟨xs, hxl, hxs⟩ := list_of len hel
    refine ⟨xs, ⟨some a, cap, by rw [hxl], by omega, hxl.symm ▸ ⟨hxl, ?_, fun _ => ⟨a, rfl, fun j p hp => (hxs j p hp).2⟩⟩⟩, by omega, ?_, fun x hx => ?_⟩
    · simp only [maxLen] at hm; omega
    · rw [hxl]
      simp only [List.length_map, List.length_range, hb, reachBytes] at hw0
      exact Nat.le_trans (Nat.mul_le_mul_right _ (by omega)) hw0
    · obtain ⟨i, hi, rfl⟩ := List.getElem_of_mem hx
      exact (hxs i _ (List.getElem?_eq_getElem hi)).1
/-- A struct's fields, from an offset on. -/
def OpensF {α : Type} (P : Program) (d : Kd α) (fs : List Field) (off : Nat) (ok : α → Prop) : Prop :=
  ∀ (H : Type) (enc : TypeId × Value → H) (w : World) (base : Nat) (spare : Nat → Bool) (held : Bool) (n : Nat) (cs : List Value) (ys : List (DataW H × List MemPlace)),
    cs.length = off + d.sz → ys.length = fs.length → (∀ (i : Nat) (f : Field), fs[i]? = some f → DataW.trod enc P w base spare held n f.type ((cs.drop f.offset).take (P.cellsOf f.type)) = ys[i]?) →
    (∀ m ∈ DataW.weightsEach P (fs.map (·.type)) (ys.map (·.1)), m ≤ reachBytes) → ∃ a, d.K w a (cs.drop off) ∧ ok a
theorem opensF_one {α : Type} {d : Kd α} {f : Field} {off : Nat} {ok : α → Prop} (hd : Opens P d f.type ok) (ho : f.offset = off) (hc : P.cellsOf f.type = d.sz) : OpensF P d [f] off ok := by
  intro H enc w base spare held n cs ys hl hy h hw
  match ys, hy with
  | [y], _ =>
    have h0 := h 0 f rfl
    rw [ho, hc, List.take_of_length_le (by rw [List.length_drop]; omega)] at h0
    exact hd H enc w base spare held n _ _ _ h0 (fun m hm => hw m (by simp [DataW.weightsEach]; exact hm))
theorem opensF_cons {α β : Type} {d : Kd α} {d' : Kd β} {f : Field} {fs : List Field} {off : Nat} {ok : α → Prop} {ok' : β → Prop} (hd : Opens P d f.type ok) (ho : f.offset = off) (hc : P.cellsOf f.type = d.sz) (hr : OpensF P d' fs (off + d.sz) ok') :
    OpensF P (Kd.pair d d') (f :: fs) off (fun x => ok x.1 ∧ ok' x.2) := by
  intro H enc w base spare held n cs ys hl hy h hw
  match ys, hy with
  | y :: ys, hy =>
    have h0 := h 0 f rfl
    rw [ho, hc] at h0
    have hz : (Kd.pair d d').sz = d.sz + d'.sz := rfl
    obtain ⟨a, hK, hok⟩ := hd H enc w base spare held n _ _ _ h0 (fun m hm => hw m (by simp [DataW.weightsEach]; exact .inl hm))
    obtain ⟨b, hK', hok'⟩ := hr H enc w base spare held n cs ys (by omega) (by simpa using hy) (fun i g hg => h (i + 1) g hg) (fun m hm => hw m (by simp only [List.map_cons, DataW.weightsEach]; exact List.mem_append_right _ hm))
    refine ⟨(a, b), ⟨_, _, ?_, hK, hK'⟩, hok, hok'⟩
    have := (List.take_append_drop d.sz (cs.drop off)).symm
    rw [List.drop_drop] at this
    exact this
theorem opens_struct {α β : Type} {d : Kd α} {f : β → α} {t : TypeId} {fs : Array Field} {ok : α → Prop} (ht : P.underlying t = some (.struct fs)) (hc : P.cellsOf t = d.sz) (hf : OpensF P d fs.toList 0 ok) (hs : ∀ a, ∃ x, f x = a) :
    Opens P (Kd.iso d f) t (fun x => ok (f x)) := by
  intro H enc w base spare held fuel cs D ps h hw
  obtain ⟨xs, n, rfl, hx, hl, hlen, hfs⟩ := DataW.trod_struct ht h
  obtain ⟨rfl, _⟩ := Prod.mk.inj hx
  rw [DataW.weights, ht] at hw
  simp only at hw
  obtain ⟨a, hK, hok⟩ := hf H enc w base spare held n cs xs (by omega) (by simpa using hlen) (fun i g hg => hfs i g (by simpa using hg)) hw
  obtain ⟨x, rfl⟩ := hs a
  rw [List.drop_zero] at hK
  exact ⟨x, hK, hok⟩
theorem Opens.imp {α : Type} {d : Kd α} {t : TypeId} {ok ok' : α → Prop} (h : Opens P d t ok) (hi : ∀ a, ok a → ok' a) : Opens P d t ok' := by
  intro H enc w base spare held fuel cs D ps h1 h2
  obtain ⟨a, h3, h4⟩ := h H enc w base spare held fuel cs D ps h1 h2
  exact ⟨a, h3, hi a h4⟩
/-- A parameter of a row, opened. -/
theorem param_open {α : Type} {d : Kd α} {t : TypeId} {ok : α → Prop} (hO : Opens P d t ok) {H : Type} {enc : TypeId × Value → H} {W : World} {base : Nat} {spare : Nat → Bool} {held : Bool} {v : Value} {D : DataW H} {ps : List MemPlace} {ts : List TypeId} {ds : List (DataW H)} {j : Nat}
    (hsz : (DataW.weightsEach P ts ds).all (· ≤ reachBytes) = true) (ht : ts[j]? = some t) (hd : ds[j]? = some D) (h : DataW.Trod enc P W base spare held t v D ps) : ∃ a, d.K W a v.cells.toList ∧ ok a := by
  obtain ⟨fuel, hf⟩ := h
  refine hO H enc W base spare held fuel _ _ _ hf (fun n hn => ?_)
  have := List.all_eq_true.1 hsz _ (DataW.weights_mem_each ht hd n hn)
  simpa using this
theorem agg_of {r : Reach} {b0 : Nat} {t : TypeId} {fs : Array Field} {W : World} {v : Value} {cs : List Value} (hs : P.underlying t = some (.struct fs)) (hv : Value.okWide P W r b0 t v) (h : v.cells.toList = cs) : v = .agg cs.toArray := by
  obtain ⟨ws, rfl, _⟩ := okWide_struct hs hv
  simp only [Value.cells] at h
  rw [← h]
end Go.Proofs.Ytionejclfbdlmaa.Opens
