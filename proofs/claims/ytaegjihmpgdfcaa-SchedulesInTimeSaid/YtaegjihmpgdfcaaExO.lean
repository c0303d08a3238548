/- A region that draws its order, the whole. -/
import Derived.Test.YtaegjihmpgdfcaaExN
set_option linter.unusedVariables false
set_option linter.unusedSimpArgs false
namespace Go.Ex
open Go.RowKit
/-- One instruction of the order of the text. -/
def TStep (P : Program) (i : Ins) (s s' : St) (fw : FW) : Prop :=
  (want s.t i.g = some false ∧ s' = ⟨put s.t i.dst (.tup []), s.h, s.nx⟩ ∧ fw = (some [], some [])) ∨
  (want s.t i.g = some true ∧ ∃ v, s'.t = put s.t i.dst v ∧ OpStep P i.op s v s'.h s'.nx fw.1 fw.2)
theorem run_trace {P : Program} {K : St → Prop} : ∀ (l : List Ins) (s : St) (acc : List FW), runL P l s acc K → ∃ (σ : Nat → St) (fw : Nat → FW), σ 0 = s ∧ K (σ l.length) ∧
    ∀ (j : Nat) i, l[j]? = some i → TStep P i (σ j) (σ (j + 1)) (fw j) ∧ (want (σ j).t i.g = some true → cfB i.cf (acc ++ (List.range j).map fw) (fw j).1 (fw j).2 = true)
  | [], s, acc, h => ⟨fun _ => s, fun _ => (none, none), rfl, h, fun j i hj => by simp at hj⟩
  | i :: l, s, acc, h => by
    have cons : ∀ (s' : St) (f : FW), TStep P i s s' f → (want s.t i.g = some true → cfB i.cf acc f.1 f.2 = true) → runL P l s' (acc ++ [f]) K →
        ∃ (σ : Nat → St) (fw : Nat → FW), σ 0 = s ∧ K (σ (i :: l).length) ∧ ∀ (j : Nat) k, (i :: l)[j]? = some k → TStep P k (σ j) (σ (j + 1)) (fw j) ∧ (want (σ j).t k.g = some true → cfB k.cf (acc ++ (List.range j).map fw) (fw j).1 (fw j).2 = true) := by
      intro s' f h1 h2 h3
      obtain ⟨σ, fw, g1, g2, g3⟩ := run_trace l s' _ h3
      refine ⟨fun j => match j with | 0 => s | j + 1 => σ j, fun j => match j with | 0 => f | j + 1 => fw j, rfl, g2, fun j k hk => ?_⟩
      cases j with
      | zero =>
        simp at hk
        subst hk
        simp only [g1]
        exact ⟨h1, fun hw => by simpa using h2 hw⟩
      | succ j =>
        simp only [List.getElem?_cons_succ] at hk
        obtain ⟨q1, q2⟩ := g3 j k hk
        refine ⟨q1, fun hw => ?_⟩
        have := q2 hw
        have hr : acc ++ (List.range (j + 1)).map (fun j => match j with | 0 => f | j + 1 => fw j) = acc ++ [f] ++ (List.range j).map fw := by
          rw [List.range_succ_eq_map]
          simp [List.map_map, Function.comp_def]
        rw [hr]
        exact this
    unfold runL at h
    split at h
    · rename_i hw
      obtain ⟨v, h', nx', rd, wr, h1, h2, h3⟩ := stepI_ex h
      exact cons ⟨put s.t i.dst v, h', nx'⟩ (rd, wr) (.inr ⟨hw, v, rfl, h1⟩) (fun _ => h2) h3
    · rename_i hw
      exact cons ⟨put s.t i.dst (.tup []), s.h, s.nx⟩ (some [], some []) (.inl ⟨hw, rfl, rfl⟩) (fun q => by rw [hw] at q; cases q) h
    · cases h
/-- Comes straight ahead, whatever the mode. -/
def dep (ops : Array Oper) (k j : Nat) : Prop := ∃ o, ops[j]? = some o ∧ ∃ e, e ∈ o.after.toList ∧ Region.binds .any e = true ∧ e.on = k
inductive Bef (ops : Array Oper) : Nat → Nat → Prop
  | one {k j : Nat} : dep ops k j → Bef ops k j
  | tail {k m j : Nat} : Bef ops k m → dep ops m j → Bef ops k j
theorem befs_ok (ops : Array Oper) : ∀ (l : List Oper) (acc : List (List Nat)), (∀ j, l[j]? = ops[acc.length + j]?) → (∀ j k, k ∈ acc.getD j [] → Bef ops k j) → ∀ j k, k ∈ (befs l acc).getD j [] → Bef ops k j
  | [], acc, _, h => h
  | o :: r, acc, hl, h => by
    unfold befs
    refine befs_ok ops r _ (fun j => ?_) fun j k hk => ?_
    · have := hl (j + 1)
      simp only [List.getElem?_cons_succ] at this
      rw [this, List.length_append, List.length_singleton]
      congr 1
      omega
    · rw [List.getD_eq_getElem?_getD] at hk
      by_cases h1 : j < acc.length
      · rw [List.getElem?_append_left h1] at hk
        exact h j k (by rw [List.getD_eq_getElem?_getD]; exact hk)
      · by_cases h2 : j = acc.length
        · subst h2
          rw [List.getElem?_append_right (Nat.le_refl _), Nat.sub_self] at hk
          simp only [List.getElem?_cons_zero, Option.getD_some, List.mem_eraseDups, List.mem_flatMap, List.mem_filter, List.mem_cons] at hk
          obtain ⟨e, ⟨he1, he2⟩, he3⟩ := hk
          have ho : ops[acc.length]? = some o := by
            have := hl 0
            simpa using this.symm
          have hd : dep ops e.on acc.length := ⟨o, ho, e, he1, he2, rfl⟩
          rcases he3 with rfl | he3
          · exact .one hd
          · exact .tail (h e.on k he3) hd
        · rw [List.getElem?_append_right (by omega), List.getElem?_singleton, if_neg (by omega)] at hk
          cases hk
section
variable {P : Program} {sh : Nat → Bool} {w0 : World} {nt : Nat} {ds : List Deferred}
/-- What is known of a region's parts. -/
structure Reg (P : Program) (sh : Nat → Bool) (nt : Nat) (ops : Array Oper) (l : List Ins) (σ : Nat → St) (fw : Nat → FW) : Prop where
  len : l.length = ops.size
  ins : ∀ (j : Nat) i, l[j]? = some i → ∃ o, ops[j]? = some o ∧ compIns P sh nt ops [] o = some { i with cf := [] }
  step : ∀ (j : Nat) i, l[j]? = some i → TStep P i (σ j) (σ (j + 1)) (fw j)
  edge : ∀ k j, dep ops k j → k < j
  tmps : ∀ (k j : Nat) i i', k < j → l[k]? = some i → l[j]? = some i' → Bef ops k j ∨ ((∀ d, i.dst = some d → d ∉ i'.names) ∧ ∀ d, i'.dst = some d → d ∉ i.names)
  blks : ∀ (k j : Nat) i i', k < j → l[k]? = some i → l[j]? = some i' → Bef ops k j ∨ ∀ id, ¬ (inW (fw k).2 id ∧ inW (fw j).1 id) ∧ ¬ (inW (fw k).1 id ∧ inW (fw j).2 id)
variable {ops : Array Oper} {l : List Ins} {σ : Nat → St} {fw : Nat → FW}
def dstIs (l : List Ins) (n j : Nat) : Prop := ∃ i, l[j]? = some i ∧ i.dst = some n
def names (l : List Ins) (n j : Nat) : Prop := ∃ i, l[j]? = some i ∧ n ∈ i.names
def wrIs (l : List Ins) (fw : Nat → FW) (id j : Nat) : Prop := j < l.length ∧ inW (fw j).2 id
def rdIs (l : List Ins) (fw : Nat → FW) (id j : Nat) : Prop := j < l.length ∧ inW (fw j).1 id
theorem Reg.tU (g : Reg P sh nt ops l σ fw) (n : Nat) : ∀ j, j < l.length → ¬ dstIs l n j → (σ (j + 1)).t n = (σ j).t n := by
  intro j hj hn
  have hi := List.getElem?_eq_getElem hj
  have hp : ∀ v, put (σ j).t l[j].dst v n = (σ j).t n := by
    intro v
    cases hd : l[j].dst with
    | none => rfl
    | some d =>
      have : n ≠ d := fun q => hn ⟨l[j], hi, by rw [hd, q]⟩
      simp [put, upd, this]
  rcases g.step j _ hi with ⟨_, h2, _⟩ | ⟨_, v, h2, _⟩
  · rw [h2]; exact hp _
  · rw [h2]; exact hp _
theorem Reg.facts (g : Reg P sh nt ops l σ fw) {j : Nat} (hj : j < l.length) : (∀ id, ¬ inW (fw j).2 id → (σ (j + 1)).h id = (σ j).h id) ∧ (∀ id, inW (fw j).2 id → inW (fw j).1 id) := by
  rcases g.step j _ (List.getElem?_eq_getElem hj) with ⟨_, h2, h3⟩ | ⟨_, v, _, h3⟩
  · rw [h2, h3]
    exact ⟨fun _ _ => rfl, fun _ h => h⟩
  · have := opStep_facts h3
    exact ⟨this.frame, this.sub⟩
theorem Reg.hU (g : Reg P sh nt ops l σ fw) (id : Nat) : ∀ j, j < l.length → ¬ wrIs l fw id j → (σ (j + 1)).h id = (σ j).h id := fun j hj hn => (g.facts hj).1 id fun q => hn ⟨hj, q⟩
theorem Reg.tC (g : Reg P sh nt ops l σ fw) (n : Nat) : ∀ i j, i < l.length → j < l.length → dstIs l n i → names l n j → (i < j → Bef ops i j) ∧ (j < i → Bef ops j i) := by
  rintro i j hi hj ⟨a, ha, ha2⟩ ⟨b, hb, hb2⟩
  refine ⟨fun hlt => ?_, fun hlt => ?_⟩
  · rcases g.tmps i j a b hlt ha hb with q | ⟨q, _⟩
    · exact q
    · exact absurd hb2 (q n ha2)
  · rcases g.tmps j i b a hlt hb ha with q | ⟨_, q⟩
    · exact q
    · exact absurd hb2 (q n ha2)
theorem Reg.hC (g : Reg P sh nt ops l σ fw) (id : Nat) : ∀ i j, i < l.length → j < l.length → wrIs l fw id i → rdIs l fw id j → (i < j → Bef ops i j) ∧ (j < i → Bef ops j i) := by
  rintro i j hi hj ⟨_, ha⟩ ⟨_, hb⟩
  refine ⟨fun hlt => ?_, fun hlt => ?_⟩
  · rcases g.blks i j _ _ hlt (List.getElem?_eq_getElem hi) (List.getElem?_eq_getElem hj) with q | q
    · exact q
    · exact absurd ⟨ha, hb⟩ (q id).1
  · rcases g.blks j i _ _ hlt (List.getElem?_eq_getElem hj) (List.getElem?_eq_getElem hi) with q | q
    · exact q
    · exact absurd ⟨hb, ha⟩ (q id).2
/-- Where some have run. -/
structure Mid (l : List Ins) (ops : Array Oper) (σ : Nat → St) (fw : Nat → FW) (w0 : World) (nt : Nat) (ds : List Deferred) (X : Nat → Prop) (tX : Nat → V) (hX : Hp) (φ : Nat → Nat × Nat) (S : Nat → Prop) (a : Act) (w : World) : Prop where
  t : ∀ n, Mrg l.length (fun j => (σ j).t n) (dstIs l n) X (tX n)
  h : ∀ id, Mrg l.length (fun j => (σ j).h id) (wrIs l fw id) X (hX id)
  sh : ∀ (k : Nat) i, l[k]? = some i → X k → want (σ k).t i.g = some true → i.op.shared = true → ∀ id, (σ (k + 1)).nx ≤ id → (σ (k + 1)).h id = none
  rel : Rel P w0 φ S hX w
  tm : ∀ n, Rep φ hX S w (tX n) (a.tmps.getD n undef)
  size : a.tmps.size = nt
  ds : a.defers = ds
theorem Reg.fresh (g : Reg P sh nt ops l σ fw) (h0 : ∀ id, (σ 0).nx ≤ id → (σ 0).h id = none) : ∀ j, j ≤ l.length →
    (∀ (k : Nat) i, k < j → l[k]? = some i → want (σ k).t i.g = some true → i.op.shared = true → ∀ id, (σ (k + 1)).nx ≤ id → (σ (k + 1)).h id = none) → ∀ id, (σ j).nx ≤ id → (σ j).h id = none
  | 0, _, _ => h0
  | j + 1, hj, hsh => by
    have ih := Reg.fresh g h0 j (by omega) fun k i hk => hsh k i (by omega)
    have hjl : j < l.length := by omega
    have hi := List.getElem?_eq_getElem hjl
    rcases g.step j _ hi with ⟨_, h2, h3⟩ | ⟨hw, v, _, h3⟩
    · rw [h2]; exact ih
    · have hf := opStep_facts h3
      cases hs : l[j].op.shared with
      | true => exact hsh j _ (by omega) hi hw hs
      | false => exact hf.fresh hs ih
theorem Mid.names_at (g : Reg P sh nt ops l σ fw) {X : Nat → Prop} {tX : Nat → V} {hX : Hp} {φ : Nat → Nat × Nat} {S : Nat → Prop} {a : Act} {w : World} (m : Mid (P := P) l ops σ fw w0 nt ds X tX hX φ S a w) {j : Nat} (hj : j < l.length)
    (hXj : ¬ X j) (hr : ∀ k, Bef ops k j → X k) (hcl : ∀ i, X i → Bef ops j i → X j) : (∀ n, names l n j → tX n = (σ j).t n) ∧ ∀ id, rdIs l fw id j → hX id = (σ j).h id :=
  ⟨fun n hn => Mrg.at (val := fun j => (σ j).t n) (g.tU n) (g.tC n) hj hn hXj hr hcl (m.t n), fun id hid => Mrg.at (val := fun j => (σ j).h id) (g.hU id) (g.hC id) hj hid hXj hr hcl (m.h id)⟩
theorem any_wp (g : Reg P sh nt ops l σ fw) (h0 : ∀ id, (σ 0).nx ≤ id → (σ 0).h id = none) {Q : Exit → Act → World → Prop} {φ0 : Nat → Nat × Nat} {h00 : Hp} {S0 : Nat → Prop} {wb : World}
    (hfin : ∀ (tX : Nat → V) (hX : Hp) (φ : Nat → Nat × Nat) (S : Nat → Prop) (a : Act) (w : World), (∀ n, tX n = (σ l.length).t n) → (∀ id, hX id = (σ l.length).h id) → (∀ id, (σ l.length).nx ≤ id → (σ l.length).h id = none) → Rel P w0 φ S hX w → (∀ n, Rep φ hX S w (tX n) (a.tmps.getD n undef)) → a.tmps.size = nt → a.defers = ds →
      Ext φ0 h00 S0 wb φ hX S w → (∀ b, S b → b < w0.heap.size → S0 b) → Q .normal a w) :
    ∀ (fuel : Nat) (listed : Array Bool) (tX : Nat → V) (hX : Hp) (φ : Nat → Nat × Nat) (S : Nat → Prop) (a : Act) (w : World), listed.size = ops.size → ((List.range ops.size).filter fun i => !listed.getD i true).length ≤ fuel →
      (∀ i k, listed.getD i false = true → dep ops k i → listed.getD k false = true) → Mid (P := P) l ops σ fw w0 nt ds (fun i => listed.getD i false = true) tX hX φ S a w → Ext φ0 h00 S0 wb φ hX S w → (∀ b, S b → b < w0.heap.size → S0 b) →
      wpAny P .any ops Q fuel listed a w := by
  have hnl := g.len
  have getD_eq : ∀ (listed : Array Bool), listed.size = ops.size → ∀ i, i < ops.size → listed.getD i true = listed.getD i false := by
    intro listed hs i hi
    have : i < listed.size := by omega
    simp [Array.getD, this]
  have allDone : ∀ (listed : Array Bool) (tX : Nat → V) (hX : Hp) (φ : Nat → Nat × Nat) (S : Nat → Prop) (a : Act) (w : World), listed.size = ops.size → (∀ i, i < ops.size → listed.getD i false = true) →
      Mid (P := P) l ops σ fw w0 nt ds (fun i => listed.getD i false = true) tX hX φ S a w → Ext φ0 h00 S0 wb φ hX S w → (∀ b, S b → b < w0.heap.size → S0 b) → Q .normal a w := by
    intro listed tX hX φ S a w hs hall m he hsub
    have hX : ∀ i, i < l.length → listed.getD i false = true := fun i hi => hall i (by omega)
    refine hfin tX _ φ S a w (fun n => Mrg.fin (val := fun j => (σ j).t n) (g.tU n) hX (m.t n)) (fun id => Mrg.fin (val := fun j => (σ j).h id) (g.hU id) hX (m.h id)) ?_ m.rel m.tm m.size m.ds he hsub
    exact g.fresh h0 l.length (Nat.le_refl _) fun k i hk hi hw hsh => m.sh k i hi (hX k hk) hw hsh
  have readyNil : ∀ (listed : Array Bool), listed.size = ops.size → Region.ready .any ops listed = [] → ∀ j, j < ops.size → listed.getD j false = true := by
    intro listed hs hr j
    induction j using Nat.strongRecOn with
    | _ j ih =>
      intro hj
      by_cases hl : listed.getD j false = true
      · exact hl
      · exfalso
        have : j ∈ Region.ready .any ops listed := by
          unfold Region.ready
          rw [List.mem_filter]
          refine ⟨by simp; exact hj, ?_⟩
          have h1 : listed.getD j true = false := by rw [getD_eq listed hs j hj]; simpa using hl
          rw [h1]
          have ho : ops[j]? = some ops[j] := Array.getElem?_eq_getElem hj
          rw [ho]
          simp only [Bool.not_false, Option.map_some, Option.getD_some, Bool.true_and]
          rw [Array.all_eq_true]
          intro i hi
          by_cases hb : Region.binds .any ops[j].after[i] = true
          · have hd : dep ops ops[j].after[i].on j := ⟨ops[j], ho, _, by simp, hb, rfl⟩
            have := g.edge _ _ hd
            rw [ih _ this (by omega)]
            simp
          · simp only [Bool.not_eq_true] at hb
            rw [hb]
            rfl
        rw [hr] at this
        cases this
  intro fuel
  induction fuel with
  | zero =>
    intro listed tX hX φ S a w hs hc hcl m he hsub
    have hnil : ((List.range ops.size).filter fun i => !listed.getD i true) = [] := List.length_eq_zero_iff.1 (by omega)
    have hall : ∀ i, i < ops.size → listed.getD i false = true := by
      intro i hi
      rw [List.filter_eq_nil_iff] at hnil
      have := hnil i (by simp; exact hi)
      rw [getD_eq listed hs i hi] at this
      simpa using this
    refine ⟨?_, allDone listed tX hX φ S a w hs hall m he hsub⟩
    unfold Region.ready
    rw [List.filter_eq_nil_iff]
    intro i hi
    have := hall i (by simpa using hi)
    rw [getD_eq listed hs i (by simpa using hi), this]
    simp
  | succ fuel ih =>
    intro listed tX hX φ S a w hs hc hcl m he hsub
    refine ⟨fun hr => allDone listed tX hX φ S a w hs (readyNil listed hs hr) m he hsub, fun j hj => ?_⟩
    unfold Region.ready at hj
    rw [List.mem_filter] at hj
    obtain ⟨hj1, hj2⟩ := hj
    have hjn : j < ops.size := by simpa using hj1
    have hjl : j < l.length := by omega
    rw [Bool.and_eq_true] at hj2
    have hXj : ¬ listed.getD j false = true := by
      rw [← getD_eq listed hs j hjn]
      simpa using hj2.1
    have hi := List.getElem?_eq_getElem hjl
    obtain ⟨o, ho, hci⟩ := g.ins j _ hi
    have hrdy : ∀ k, dep ops k j → listed.getD k false = true := by
      rintro k ⟨o', ho', e, he1, he2, rfl⟩
      have h2 := hj2.2
      rw [ho'] at h2
      simp only [Option.map_some, Option.getD_some, Array.all_eq_true] at h2
      obtain ⟨q, hq⟩ := List.getElem?_of_mem he1
      have hq' : o'.after[q]? = some e := by simpa using hq
      obtain ⟨hq1, hq2⟩ := Array.getElem?_eq_some_iff.1 hq'
      have := h2 q hq1
      rw [hq2, he2] at this
      simpa using this
    have hclB : ∀ {k i : Nat}, Bef ops k i → listed.getD i false = true → listed.getD k false = true := by
      intro k i hb
      induction hb with
      | one hd => exact fun h => hcl _ _ h hd
      | tail hb hd ih => exact fun h => ih (hcl _ _ h hd)
    have hrB : ∀ k, Bef ops k j → listed.getD k false = true := by
      intro k hb
      cases hb with
      | one hd => exact hrdy _ hd
      | tail hb hd => exact hclB hb (hrdy _ hd)
    obtain ⟨hn1, hn2⟩ := m.names_at g hjl hXj hrB (fun i h1 h2 => hclB h2 h1)
    obtain ⟨c1, c2, c3, c4, c5, c6, c7⟩ := compIns_inv hci
    simp only at c1 c2 c5 c6 c7
    -- what is listed next
    have hl1 : ∀ i, (listed.setIfInBounds j true).getD i false = true ↔ (listed.getD i false = true ∨ i = j) := by
      intro i
      have hjs : j < listed.size := by omega
      by_cases hij : i = j
      · subst hij; simp [hjs]
      · rw [Array.getD_eq_getD_getElem?, Array.getElem?_setIfInBounds_ne (Ne.symm hij), ← Array.getD_eq_getD_getElem?]
        simp [hij]
    have hl2 : ∀ i, (listed.setIfInBounds j true).getD i true = true ↔ (listed.getD i true = true ∨ i = j) := by
      intro i
      have hjs : j < listed.size := by omega
      by_cases hij : i = j
      · subst hij; simp [hjs]
      · rw [Array.getD_eq_getD_getElem?, Array.getElem?_setIfInBounds_ne (Ne.symm hij), ← Array.getD_eq_getD_getElem?]
        simp [hij]
    have hcnt : ((List.range ops.size).filter fun i => !(listed.setIfInBounds j true).getD i true).length ≤ fuel := by
      have : ((List.range ops.size).filter fun i => !(listed.setIfInBounds j true).getD i true) = ((List.range ops.size).filter fun i => !listed.getD i true).filter fun i => decide (i ≠ j) := by
        rw [List.filter_filter]
        apply List.filter_congr
        intro i _
        rw [Bool.eq_iff_iff]
        have := hl2 i
        by_cases h1 : listed.getD i true = true <;> by_cases h2 : i = j <;> simp_all
      rw [this]
      have hmem : j ∈ ((List.range ops.size).filter fun i => !listed.getD i true) := List.mem_filter.2 ⟨hj1, hj2.1⟩
      have : (((List.range ops.size).filter fun i => !listed.getD i true).filter fun i => decide (i ≠ j)).length < ((List.range ops.size).filter fun i => !listed.getD i true).length := by
        rw [List.length_filter_lt_length_iff_exists]
        exact ⟨j, hmem, by simp⟩
      omega
    have hcl' : ∀ i k, (listed.setIfInBounds j true).getD i false = true → dep ops k i → (listed.setIfInBounds j true).getD k false = true := by
      intro i k h1 h2
      rw [hl1] at h1 ⊢
      rcases h1 with q | q
      · exact .inl (hcl i k q h2)
      · subst q; exact .inl (hrdy k h2)
    have next : ∀ (v : V) (φ' : Nat → Nat × Nat) (S' : Nat → Prop) (x : Value) (w' : World) (hX' : Hp), (∀ id, (inW (fw j).2 id → hX' id = (σ (j + 1)).h id) ∧ (¬ inW (fw j).2 id → hX' id = hX id)) → (σ (j + 1)).t = put (σ j).t l[j].dst v →
        (want (σ j).t l[j].g = some true → l[j].op.shared = true → ∀ id, (σ (j + 1)).nx ≤ id → (σ (j + 1)).h id = none) → Rel P w0 φ' S' hX' w' → Ext φ hX S w φ' hX' S' w' → (∀ b, S' b → b < w0.heap.size → S b) → Rep φ' hX' S' w' v x →
        wpAny P .any ops Q fuel (listed.setIfInBounds j true) (a.put o.dst x) w' := by
      intro v φ' S' x w' hX' hh ht hsh q1 q2 q3 q4
      have hmono : ∀ {α : Type} {n : Nat} {val : Nat → α} {wr : Nat → Prop} {x : α}, Mrg n val wr (fun i => listed.getD i false = true ∨ i = j) x → Mrg n val wr (fun i => (listed.setIfInBounds j true).getD i false = true) x := by
        intro α n val wr x h
        have : (fun i => (listed.setIfInBounds j true).getD i false = true) = fun i => listed.getD i false = true ∨ i = j := funext fun i => propext (hl1 i)
        rw [this]
        exact h
      refine ih _ (put tX l[j].dst v) hX' φ' S' _ w' (by simp [hs]) hcnt hcl' ⟨fun n => hmono ?_, fun id => hmono ?_, fun k i hk hX h1 h2 => ?_, q1, ?_, by rw [put_size]; exact m.size, by rw [put_defers']; exact m.ds⟩ (he.trans q2) (fun b hb hlt => hsub b (q3 b hb hlt) hlt)
      · refine (m.t n).step (tch := names l n) (bef := Bef ops) (g.tC n) (fun j ⟨i, h1, h2⟩ => ⟨i, h1, by simp [Ins.names, h2]⟩) hjl hXj (fun i h1 h2 => hclB h2 h1) (fun hw => ?_) (fun hw => ?_)
        · obtain ⟨i, h1, h2⟩ := hw
          rw [hi] at h1
          injection h1 with h1
          subst h1
          simp only [ht, h2, put, upd_self]
        · cases hd : l[j].dst with
          | none => rfl
          | some d =>
            have : n ≠ d := fun q => hw ⟨l[j], hi, by rw [hd, q]⟩
            simp [put, upd, this]
      · refine (m.h id).step (tch := rdIs l fw id) (bef := Bef ops) (g.hC id) (fun j ⟨h1, h2⟩ => ⟨h1, (g.facts h1).2 id h2⟩) hjl hXj (fun i h1 h2 => hclB h2 h1) (fun hw => (hh id).1 hw.2) (fun hw => (hh id).2 fun q => hw ⟨hjl, q⟩)
      · rw [hl1] at hX
        rcases hX with q | q
        · exact m.sh k i hk q h1 h2
        · subst q
          rw [hi] at hk
          injection hk with hk
          subst hk
          exact hsh h1 h2
      · rw [c2]
        refine rep_put (fun n => (m.tm n).ext q2) (fun n hn => ?_) q4
        rw [hn] at c4
        rw [m.size]
        simpa using c4
    have hnm : ∀ n, n ∈ l[j].names → tX n = (σ j).t n := fun n hn => hn1 n ⟨l[j], hi, hn⟩
    have hwant : want tX l[j].g = want (σ j).t l[j].g := by
      cases hg : l[j].g with
      | none => rfl
      | some db =>
        simp only [want]
        rw [hnm db.1 (by simp [Ins.names, hg])]
    unfold wpOp
    rw [ho]
    simp only
    have hw2 : ∀ b, want (σ j).t l[j].g = some b → Region.wanted o (yielded ops a.tmps) = b := fun b hb =>
      wanted_eq (b := b) m.tm rfl c5 c6 (fun d b h => by rw [m.size]; exact c7 d b h) (hwant.trans hb)
    rcases g.step j _ hi with ⟨h1, h2, h3⟩ | ⟨h1, v, h2, h3⟩
    · rw [if_neg (by rw [hw2 false h1]; exact Bool.false_ne_true)]
      refine next (.tup []) φ S undef w hX (fun id => ⟨fun q => ?_, fun _ => rfl⟩) (by rw [h2]) (fun q => by rw [h1] at q; cases q) m.rel .refl (fun _ x _ => x) undef_rep
      rw [h3] at q
      cases q
    · rw [if_pos (hw2 true h1)]
      have hf := opStep_facts h3
      rcases c1 with c1 | c1
      case inr => rw [c1] at h3; exact h3.elim
      refine .inl (step_loc h3 c1 (fun x hx => ?_) (fun id hid => hn2 id ⟨hjl, hid⟩) (fun hor => ?_) m.rel m.tm fun φ' S' x w' q1 q2 q3 q4 q5 => ?_)
      · cases x with
        | c v => rfl
        | t n =>
          refine hnm n ?_
          simp only [Ins.names, List.mem_append, List.mem_flatMap]
          exact .inr ⟨.t n, hx, by simp [xTmp]⟩
      · refine g.fresh h0 j (by omega) fun k i hk hki hkw hks => m.sh k i hki ?_ hkw hks
        -- a shared call ahead in the text comes ahead in every order
        refine hrB k ?_
        have hkl : k < l.length := by omega
        have hex : ∃ id, inW (fw j).1 id := by
          rcases hor with q | q
          · exact hf.new q
          · exact ⟨0, by rw [hf.sharing q]; trivial⟩
        obtain ⟨id, hid⟩ := hex
        have hkf : (fw k).2 = none := by
          rcases g.step k _ hki with ⟨z1, _, _⟩ | ⟨_, v', _, z3⟩
          · rw [hkw] at z1; cases z1
          · exact ((opStep_facts z3).shared hks).2
        exact (g.hC id k j hkl hjl ⟨hkl, by rw [hkf]; trivial⟩ ⟨hjl, hid⟩).1 hk
      · refine next v φ' S' x w' _ (fun id => ⟨fun q => ?_, fun q => ?_⟩) h2 (fun _ hs => q5 hs) q1 q2 q3 q4
        · simp only [patch, if_pos q]
        · simp only [patch, if_neg q]
end
end Go.Ex
