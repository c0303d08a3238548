/- Generic library functions, once for all kinds of elements: IndexFunc, Index, Contains, Equal, Clone. -/
import Derived.Test.YtaegjihmpgdfcaaExT
set_option linter.unusedVariables false
set_option linter.unusedSimpArgs false
set_option maxRecDepth 10000
namespace Go.Ex
theorem e62 : (2 : Nat) ^ 62 = 4611686018427387904 := by decide
theorem e47 : (2 : Nat) ^ 47 = 140737488355328 := by decide
/-- The first place, or -1. -/
def ixI {α : Type} (p : α → Bool) (l : List α) : Int := match l.findIdx? p with
  | some i => i
  | none => -1
theorem ixI_stop {α : Type} {p : α → Bool} {l : List α} {k : Nat} {a : α} (h : Not' p l k) (hg : l[k]? = some a) (hp : p a = true) : ixI p l = k := by
  have hk := (List.getElem?_eq_some_iff.1 hg)
  have hk1 := hk.1
  have : l.findIdx? p = some k := by
    rw [List.findIdx?_eq_some_iff_getElem]
    refine ⟨hk.1, by rw [hk.2]; exact hp, fun j hj => ?_⟩
    have := h j l[j] hj (List.getElem?_eq_getElem (by omega))
    simpa using this
  unfold ixI
  rw [this]
theorem ixI_none {α : Type} {p : α → Bool} {l : List α} (h : Not' p l l.length) : ixI p l = -1 := by
  have : l.findIdx? p = none := by
    rw [List.findIdx?_eq_none_iff]
    intro a ha
    obtain ⟨i, hi⟩ := List.getElem?_of_mem ha
    exact h i a (List.getElem?_eq_some_iff.1 hi).1 hi
  unfold ixI
  rw [this]
theorem ixI_cases {α : Type} (p : α → Bool) (l : List α) : (ixI p l = -1 ∧ ∀ a ∈ l, p a = false) ∨ ∃ (k : Nat) (a : α), ixI p l = k ∧ l[k]? = some a ∧ p a = true ∧ Not' p l k := by
  unfold ixI
  cases h : l.findIdx? p with
  | none => exact .inl ⟨rfl, fun a ha => by simpa using List.findIdx?_eq_none_iff.1 h a ha⟩
  | some k =>
    rw [List.findIdx?_eq_some_iff_getElem] at h
    obtain ⟨h1, h2, h3⟩ := h
    refine .inr ⟨k, l[k], rfl, List.getElem?_eq_getElem h1, h2, fun i a hi ha => ?_⟩
    have := h3 i hi
    rw [(List.getElem?_eq_some_iff.1 ha).2] at this
    simpa using this
theorem ixI_neg {α : Type} {p : α → Bool} {l : List α} : ixI p l < 0 ↔ l.any p = false := by
  rcases ixI_cases p l with ⟨h1, h2⟩ | ⟨k, a, h1, h2, h3, _⟩
  · rw [h1, List.any_eq_false]
    simp
    intro a ha
    simp [h2 a ha]
  · rw [h1, any_stop h2 h3]
    simp
section
variable {P : Program} {sh : Nat → Bool} {α : Type} {d : Cd α} {esz f : Nat}
def ixC_k (esz : Nat) : Cmd := (.block 1 (.seq (.reg false [⟨(some 10), none, (.mov (.t 8)), []⟩, ⟨(some 5), none, (.mov (.t 10)), []⟩]) (.seq (.reg false [⟨(some 11), none, (.mov (.t 1)), []⟩, ⟨(some 12), none, (.mov (.t 0)), []⟩, ⟨(some 13), none, (.mov (.t 5)), []⟩, ⟨(some 14), none, (.iaddr (.t 12) (.t 13) esz), []⟩, ⟨(some 15), none, (.ld (.t 14) (some esz)), []⟩, ⟨(some 16), none, (.calv (.t 11) [(.t 15)]), []⟩]) (.cond (.t 16) (.seq (.reg false [⟨(some 17), none, (.mov (.t 5)), []⟩, ⟨(some 4), none, (.mov (.t 17)), []⟩]) .ret) .skip))))
def ixC (esz : Nat) : Cmd := (.seq (.reg false [⟨(some 4), none, (.mov (.c (.int .i64 0))), []⟩]) (.seq (.seq (.reg false [⟨(some 6), none, (.mov (.t 0)), []⟩, ⟨(some 7), none, (.len false (.t 6)), []⟩, ⟨(some 8), none, (.mov (.c (.int .i64 0))), []⟩]) (.block 0 (.loop (cnt 0 9 8 7 18 (ixC_k esz))))) (.seq (.reg false [⟨(some 4), none, (.mov (.c (.int .i64 (-1)))), []⟩]) .ret)))
theorem indexFunc_ok (hm : P.follows .mixedOrders = true) (hf : compF P sh f = some (ixC esz, [4], 19)) (hs : d.sz = esz) (hp : 0 < esz) (l : List α) (hl : l.length < 2 ^ 62) (p : α → Bool) {g nx : Nat} {caps : List V} {h : Hp} (hb : hasBody P g = true)
    (hcl : ∀ a ∈ l, ∀ h' nx', nx ≤ nx' → (∀ j, j < nx → h' j = h j) → SEx P g ([.agg (d.cells a)] ++ caps) h' nx' (Quiet (.bool (p a)) h' nx')) : SEx P f [.ro l.length (fl d l), .fn g caps] h nx (Quiet (.int .i64 (ixI p l)) h nx) := by
  refine SEx.of hm hf (of_decide_eq_true rfl) ?_
  unfold ixC
  simp -dsimp
  refine for_lt l.length (fun k s => s.t 0 = .ro l.length (fl d l) ∧ s.t 1 = .fn g caps ∧ nx ≤ s.nx ∧ (∀ j, j < nx → s.h j = h j) ∧ Not' p l k) rfl hl (by simp -dsimp [Not'.zero]) (by simp -dsimp) (by simp -dsimp) (fun k s hk hI hi hn => ?_) (fun s hI hi hn => ?_)
  · obtain ⟨i0, i1, i2, i3, iu⟩ := hI
    have hg : l[k]? = some l[k] := List.getElem?_eq_getElem hk
    have hmem : l[k] ∈ l := List.getElem_mem hk
    generalize l[k] = a at hg hmem
    have e1 : ∀ K, iaddrK s.h (.ro l.length (fl d l)) (.int .i64 k) esz K ⟨⟩ = K (.rp (fl d l) (k * esz)) [] := fun K => iaddr_fl hs hp hg
    have e2 : ∀ h, ldA h (.rp (fl d l) (k * esz)) (some esz) = some (.agg (d.cells a)) := fun h => ld_fls hs hg
    unfold ixC_k
    simp -dsimp [i0, i1, hi, hn, e1, e2]
    refine calv_ex hb (hcl a hmem _ _ i2 i3) ?_
    rintro v h' nx' ⟨rfl, q1, q2⟩
    simp -dsimp
    refine condK_of ?_ ?_ <;> intro q <;> simp -dsimp [q, i0, i1, hi, hn]
    · exact ⟨by simp [ixI_stop iu hg q], by omega, fun j hj => by rw [q2 j (by omega), i3 j hj]⟩
    · exact ⟨by omega, fun j hj => by rw [q2 j (by omega), i3 j hj], iu.succ hg q⟩
  · obtain ⟨i0, i1, i2, i3, iu⟩ := hI
    simp -dsimp
    exact ⟨by simp [ixI_none iu], i2, i3⟩
/-- Elements of one cell. -/
def ix1_k : Cmd := (.block 1 (.seq (.reg false [⟨(some 10), none, (.mov (.t 8)), []⟩, ⟨(some 5), none, (.mov (.t 10)), []⟩]) (.seq (.reg false [⟨(some 11), none, (.mov (.t 1)), []⟩, ⟨(some 12), none, (.mov (.t 0)), []⟩, ⟨(some 13), none, (.mov (.t 5)), []⟩, ⟨(some 14), none, (.iaddr (.t 12) (.t 13) 1), []⟩, ⟨(some 15), none, (.ld (.t 14) none), []⟩, ⟨(some 16), none, (.bin .eql (.t 11) (.t 15)), []⟩]) (.cond (.t 16) (.seq (.reg false [⟨(some 17), none, (.mov (.t 5)), []⟩, ⟨(some 4), none, (.mov (.t 17)), []⟩]) .ret) .skip))))
def ix1C : Cmd := (.seq (.reg false [⟨(some 4), none, (.mov (.c (.int .i64 0))), []⟩]) (.seq (.seq (.reg false [⟨(some 6), none, (.mov (.t 0)), []⟩, ⟨(some 7), none, (.len false (.t 6)), []⟩, ⟨(some 8), none, (.mov (.c (.int .i64 0))), []⟩]) (.block 0 (.loop (cnt 0 9 8 7 18 ix1_k)))) (.seq (.reg false [⟨(some 4), none, (.mov (.c (.int .i64 (-1)))), []⟩]) .ret)))
theorem index1_ok [DecidableEq α] (hm : P.follows .mixedOrders = true) (hf : compF P sh f = some (ix1C, [4], 19)) (hs : d.sz = 1) {u : α → V} (hu : ∀ a, d.cells a = [u a]) (he : ∀ a b, binA .eql (u a) (u b) = some (.bool (decide (a = b)))) (l : List α) (hl : l.length < 2 ^ 62) (x : α) :
    OkF P f [.ro l.length (fl d l), u x] (.int .i64 (ixI (fun a => decide (x = a)) l), []) := by
  refine OkF.W0 hm hf (of_decide_eq_true rfl) ?_
  unfold ix1C
  simp -dsimp
  refine for_lt l.length (fun k s => s.t 0 = .ro l.length (fl d l) ∧ s.t 1 = u x ∧ Not' (fun a => decide (x = a)) l k) rfl hl (by simp -dsimp [Not'.zero]) (by simp -dsimp) (by simp -dsimp) (fun k s hk hI hi hn => ?_) (fun s hI hi hn => ?_)
  · obtain ⟨i0, i1, iu⟩ := hI
    have hg : l[k]? = some l[k] := List.getElem?_eq_getElem hk
    generalize l[k] = a at hg
    have e1 : ∀ K, iaddrK s.h (.ro l.length (fl d l)) (.int .i64 k) 1 K ⟨⟩ = K (.rp (fl d l) k) [] := fun K => by
      have := iaddr_fl (kk := .i64) (h := s.h) (K := K) hs (by decide) hg
      rwa [Nat.mul_one] at this
    have e2 : ∀ h, ldA h (.rp (fl d l) k) none = some (u a) := fun h => by
      have := ld_fl0 (h := h) hs (by decide) hg
      rw [Nat.mul_one, hu] at this
      exact this
    unfold ix1_k
    simp -dsimp [i0, i1, hi, hn, e1, e2, he]
    refine condK_of ?_ ?_ <;> intro q <;> simp -dsimp [q, i0, i1, hi, hn]
    · simp [ixI_stop iu hg q]
    · exact iu.succ hg q
  · obtain ⟨i0, i1, iu⟩ := hI
    simp -dsimp
    simp [ixI_none iu]
theorem index1_int (hm : P.follows .mixedOrders = true) (hf : compF P sh f = some (ix1C, [4], 19)) {kk : IntKind} (l : List Int) (hl : l.length < 2 ^ 62) (x : Int) : OkF P f [.ro l.length (fl (.int kk) l), .int kk x] (.int .i64 (ixI (fun a => decide (x = a)) l), []) :=
  index1_ok (d := .int kk) (u := fun a => V.int kk a) hm hf rfl (fun _ => rfl) (fun a b => by simp) l hl x
def containsC (f : Nat) : Cmd := (.seq (.reg false [⟨(some 4), none, (.mov (.c (.bool false))), []⟩]) (.seq (.reg false [⟨(some 5), none, (.mov (.t 0)), []⟩, ⟨(some 6), none, (.mov (.t 1)), []⟩, ⟨(some 7), none, (.call f [(.t 5), (.t 6)]), []⟩, ⟨(some 8), none, (.bin .geq (.t 7) (.c (.int .i64 0))), []⟩, ⟨(some 4), none, (.mov (.t 8)), []⟩]) .ret))
theorem contains_int {f' : Nat} (hm : P.follows .mixedOrders = true) (hf : compF P sh f = some (containsC f', [4], 9)) (hf' : compF P sh f' = some (ix1C, [4], 19)) {kk : IntKind} (l : List Int) (hl : l.length < 2 ^ 62) (x : Int) : OkF P f [.ro l.length (fl (.int kk) l), .int kk x] (.bool (decide (x ∈ l)), []) := by
  refine OkF.W0 hm hf (of_decide_eq_true rfl) ?_
  unfold containsC
  simp -dsimp
  refine call_int (index1_int hm hf' l hl x) ?_
  simp -dsimp
  have := ixI_neg (p := fun a => decide (x = a)) (l := l)
  rw [List.any_eq_false] at this
  simp only [decide_eq_true_eq] at this
  constructor
  · intro h
    refine Decidable.byContradiction fun hn => ?_
    have := this.2 (fun a ha e => hn (by rw [e]; exact ha))
    omega
  · intro h
    rcases Int.lt_or_le (ixI (fun a => decide (x = a)) l) 0 with q | q
    · exact absurd rfl (this.1 q x h)
    · exact q
/-- Rows held against each other. -/
def eqC_k (esz : Nat) (tags : List Nat) : Cmd := (.block 1 (.seq (.reg false [⟨(some 15), none, (.mov (.t 13)), []⟩, ⟨(some 5), none, (.mov (.t 15)), []⟩]) (.seq (.reg true [⟨(some 16), none, (.mov (.t 0)), []⟩, ⟨(some 17), none, (.mov (.t 5)), []⟩, ⟨(some 18), none, (.iaddr (.t 16) (.t 17) esz), []⟩, ⟨(some 19), none, (.ld (.t 18) (some esz)), []⟩, ⟨(some 20), none, (.mov (.t 1)), []⟩, ⟨(some 21), none, (.mov (.t 5)), []⟩, ⟨(some 22), none, (.iaddr (.t 20) (.t 21) esz), []⟩, ⟨(some 23), none, (.ld (.t 22) (some esz)), []⟩, ⟨(some 24), none, (.seq true tags (.t 19) (.t 23)), []⟩]) (.cond (.t 24) (.seq (.reg false [⟨(some 4), none, (.mov (.c (.bool false))), []⟩]) .ret) .skip))))
def eqC (esz : Nat) (tags : List Nat) : Cmd := (.seq (.reg false [⟨(some 4), none, (.mov (.c (.bool false))), []⟩]) (.seq (.seq (.reg false [⟨(some 6), none, (.mov (.t 0)), []⟩, ⟨(some 7), none, (.len false (.t 6)), []⟩, ⟨(some 8), none, (.mov (.t 1)), []⟩, ⟨(some 9), none, (.len false (.t 8)), []⟩, ⟨(some 10), none, (.bin .neq (.t 7) (.t 9)), []⟩]) (.cond (.t 10) (.seq (.reg false [⟨(some 4), none, (.mov (.c (.bool false))), []⟩]) .ret) .skip)) (.seq (.seq (.reg false [⟨(some 11), none, (.mov (.t 0)), []⟩, ⟨(some 12), none, (.len false (.t 11)), []⟩, ⟨(some 13), none, (.mov (.c (.int .i64 0))), []⟩]) (.block 0 (.loop (cnt 0 14 13 12 25 (eqC_k esz tags))))) (.seq (.reg false [⟨(some 4), none, (.mov (.c (.bool true))), []⟩]) .ret))))
theorem equal_ok [DecidableEq α] {tags : List Nat} (hm : P.follows .mixedOrders = true) (hf : compF P sh f = some (eqC esz tags, [4], 26)) (hs : d.sz = esz) (hp : 0 < esz) (he : ∀ a b, seqA true tags (.agg (d.cells a)) (.agg (d.cells b)) = some (.bool (!decide (a = b)))) (l m : List α) (hl : l.length < 2 ^ 62) :
    OkF P f [.ro l.length (fl d l), .ro m.length (fl d m)] (.bool (decide (l = m)), []) := by
  refine OkF.W0 hm hf (of_decide_eq_true rfl) ?_
  unfold eqC
  simp -dsimp
  refine condK_of ?_ ?_ <;> intro q <;> simp -dsimp [q]
  · have : l ≠ m := fun e => by subst e; simp at q
    simp [this]
  have hlm : l.length = m.length := by simp at q; omega
  refine for_lt l.length (fun k s => s.t 0 = .ro l.length (fl d l) ∧ s.t 1 = .ro m.length (fl d m) ∧ ∀ i, i < k → l[i]? = m[i]?) rfl hl (by simp -dsimp) (by simp -dsimp) (by simp -dsimp) (fun k s hk hI hi hn => ?_) (fun s hI hi hn => ?_)
  · obtain ⟨i0, i1, iu⟩ := hI
    have hg : l[k]? = some l[k] := List.getElem?_eq_getElem hk
    have hg' : m[k]? = some m[k] := List.getElem?_eq_getElem (by omega)
    generalize l[k] = a at hg
    generalize m[k] = b at hg'
    have e1 : ∀ K, iaddrK s.h (.ro l.length (fl d l)) (.int .i64 k) esz K ⟨⟩ = K (.rp (fl d l) (k * esz)) [] := fun K => iaddr_fl hs hp hg
    have e2 : ∀ h, ldA h (.rp (fl d l) (k * esz)) (some esz) = some (.agg (d.cells a)) := fun h => ld_fls hs hg
    have e1' : ∀ K, iaddrK s.h (.ro m.length (fl d m)) (.int .i64 k) esz K ⟨⟩ = K (.rp (fl d m) (k * esz)) [] := fun K => iaddr_fl hs hp hg'
    have e2' : ∀ h, ldA h (.rp (fl d m) (k * esz)) (some esz) = some (.agg (d.cells b)) := fun h => ld_fls hs hg'
    unfold eqC_k
    simp -dsimp [i0, i1, hi, hn, e1, e2, e1', e2', he]
    refine condK_of ?_ ?_ <;> intro q2 <;> simp -dsimp [q2, i0, i1, hi, hn]
    · have : l ≠ m := fun e => by
        subst e
        rw [hg] at hg'
        injection hg' with hg'
        simp [hg'] at q2
      simp [this]
    · intro i hik
      by_cases hik' : i = k
      · subst hik'
        rw [hg, hg']
        simpa using q2
      · exact iu i (by omega)
  · obtain ⟨i0, i1, iu⟩ := hI
    have : l = m := by
      apply List.ext_getElem?
      intro i
      by_cases hi : i < l.length
      · exact iu i hi
      · rw [List.getElem?_eq_none (by omega), List.getElem?_eq_none (by omega)]
    simp -dsimp [this]
def eq1_k : Cmd := (.block 1 (.seq (.reg false [⟨(some 15), none, (.mov (.t 13)), []⟩, ⟨(some 5), none, (.mov (.t 15)), []⟩]) (.seq (.reg false [⟨(some 16), none, (.mov (.t 0)), []⟩, ⟨(some 17), none, (.mov (.t 5)), []⟩, ⟨(some 18), none, (.iaddr (.t 16) (.t 17) 1), []⟩, ⟨(some 19), none, (.ld (.t 18) none), []⟩, ⟨(some 20), none, (.mov (.t 1)), []⟩, ⟨(some 21), none, (.mov (.t 5)), []⟩, ⟨(some 22), none, (.iaddr (.t 20) (.t 21) 1), []⟩, ⟨(some 23), none, (.ld (.t 22) none), []⟩, ⟨(some 24), none, (.bin .neq (.t 19) (.t 23)), []⟩]) (.cond (.t 24) (.seq (.reg false [⟨(some 4), none, (.mov (.c (.bool false))), []⟩]) .ret) .skip))))
/-- A copy. -/
def cloneC (esz bytes : Nat) (zero : List V) : Cmd := (.seq (.reg false [⟨(some 2), none, (.mov (.c .ns)), []⟩]) (.seq (.seq (.reg false [⟨(some 3), none, (.mov (.t 0)), []⟩, ⟨(some 4), none, (.isnil true false (.t 3)), []⟩]) (.cond (.t 4) (.seq (.reg false [⟨(some 2), none, (.mov (.c .ns)), []⟩]) .ret) .skip)) (.seq (.reg false [⟨(some 5), none, (.bs 0 esz zero []), []⟩, ⟨(some 6), none, (.mov (.t 0)), []⟩, ⟨(some 7), none, (.app esz bytes (.t 5) (.t 6)), []⟩, ⟨(some 2), none, (.mov (.t 7)), []⟩]) .ret)))
theorem clone_ok {bytes : Nat} {zero : List V} (hm : P.follows .mixedOrders = true) (hf : compF P sh f = some (cloneC esz bytes zero, [2], 8)) (hs : d.sz = esz) (l : List α) (hl : l.length < 2 ^ 62) (hb : l.length * bytes ≤ 2 ^ 47) (hne : l ≠ []) :
    OkF P f [.ro l.length (fl d l)] (.sl 0 0 0 l.length none, [⟨0, esz, fl d l, none⟩]) := by
  subst hs
  have h0 : 0 < l.length := List.length_pos_iff.2 hne
  have h0' : l.length ≠ 0 := by omega
  have hfl := flat_len (d := d) l
  refine OkF.of hm hf (of_decide_eq_true rfl) ?_ (fun b hb => ?_)
  · simp only [cloneC, wpA, runN, want, stepI, opA, X.ev, ret0, Option.map_some, put, fillA, zeros, srcA, elems, initT, upd, List.getD_cons_zero, if_true]
    simp [h0, hfl, hb, hl, h0', upd, initT, resV, ret0, fillA, zeros, elems, opA]
    refine ⟨[0], by simp, ?_, ?_⟩
    · rfl
    · simp [expB, upd]
      simp [roL]
  · simp at hb
    subst hb
    exact ⟨fl_pure l, rfl⟩
end
end Go.Ex
