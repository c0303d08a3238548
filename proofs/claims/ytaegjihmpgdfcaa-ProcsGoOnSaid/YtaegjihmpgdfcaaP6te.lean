/- Places that came out are right. -/
import Derived.Test.YtaegjihmpgdfcaaP6td
set_option linter.unusedVariables false
set_option linter.unusedSimpArgs false
set_option maxRecDepth 10000
set_option maxHeartbeats 4000000
namespace Go.Proofs.P6
open Go.Ex
variable {p : List Prc}
theorem placeE_link {s : List Place} {k : Nat} {y z : Place} (hg : s[k]? = some y) (hz : s[k + 1]? = some z) (h : placeE p s k = 0) : link p y z := by
  obtain ⟨pn, st, un⟩ := y
  by_cases h0 : prI p pn < 0
  · rw [placeE_neg hg h0] at h; cases h
  obtain ⟨pr, hpr, hn, hso⟩ := stepsOf_get (p := p) (s := pn) (by omega)
  have hpf := placeE_pf hg h
  rw [placeE_eq hg hpr (by omega)] at h
  have hkl : ¬ k + 1 = s.length := by have := (List.getElem?_eq_some_iff.1 hz).1; omega
  split at h
  · cases h
  split at h
  · cases h
  rename_i q2
  split at h
  · cases h
  rename_i q3
  have hu := hpf.un
  simp only at hu
  simp [hkl] at q2 q3
  refine ⟨by show un = -1; omega, q3.1, ?_⟩
  have q4 := q3.2
  simp only [kindAt, nextIs, hz] at q4
  simp only [kindAt, hso]
  exact q4
theorem places_chain {s : List Place} (h : placesE p s = 0) : PChain p s := by
  unfold placesE at h
  split at h
  · rename_i q; exact absurd h q
  split at h
  · cases h
  intro k y z h1 h2
  exact placeE_link h1 h2 (fe_zero h k (List.getElem?_eq_some_iff.1 h1).1)
theorem link_cl {y z : Place} (hy : 0 ≤ prI p y.1) (h : link p y z) : cl p (prI p y.1) (prI p z.1) := by
  obtain ⟨h1, h2, h3⟩ := h
  obtain ⟨x, e1, e2, e3⟩ := stepsOf_get hy
  rw [e3] at h3
  unfold kindAt at h3
  split at h3
  · rename_i w hw
    simp at h3
    exact ⟨x, w, e1, List.mem_of_getElem? hw, h3.1, by rw [h3.2]⟩
  · cases h3
theorem chain_tc {pl : List Place} (hpf : ∀ y ∈ pl, PF p y) (h : PChain p pl) : ∀ (d i : Nat) (y z : Place), pl[i]? = some y → pl[i + 1 + d]? = some z → Tc (cl p) (prI p y.1) (prI p z.1)
  | 0, i, y, z, h1, h2 => .one (link_cl (hpf y (List.mem_of_getElem? h1)).pr (h i y z h1 h2))
  | d + 1, i, y, z, h1, h2 => by
    have hl := (List.getElem?_eq_some_iff.1 h2).1
    have hg : pl[i + 1 + d]? = some pl[i + 1 + d] := List.getElem?_eq_getElem (by omega)
    exact .more (chain_tc hpf h d i y _ h1 hg) (link_cl (hpf _ (List.getElem_mem (by omega))).pr (h (i + 1 + d) _ z hg h2))
theorem chain_len (hg : GP p) {pl : List Place} (hpf : ∀ y ∈ pl, PF p y) (h : PChain p pl) : pl.length ≤ 50 := by
  have hn : (pl.map fun y => prI p y.1).Nodup := by
    rw [List.nodup_iff_pairwise_ne, List.pairwise_iff_getElem]
    intro i j hi hj hij
    rw [List.length_map] at hi hj
    rw [List.getElem_map, List.getElem_map]
    intro e
    have ht := chain_tc hpf h (j - i - 1) i pl[i] pl[j] (List.getElem?_eq_getElem hi) (by rw [show i + 1 + (j - i - 1) = j by omega]; exact List.getElem?_eq_getElem hj)
    rw [← e] at ht
    have h0 := (hpf pl[i] (List.getElem_mem hi)).pr
    have hlt := prI_lt p pl[i].1
    have hac := hg.acyc (prI p pl[i].1).toNat (by omega)
    unfold loopB at hac
    rw [decide_eq_false_iff_not] at hac
    apply hac
    rw [show (((prI p pl[i].1).toNat : Nat) : Int) = prI p pl[i].1 by omega]
    exact ht
  have := nodup_le (n := p.length) hn (by
    intro k hk
    rw [List.mem_map] at hk
    obtain ⟨y, hy, rfl⟩ := hk
    exact ⟨(hpf y hy).pr, prI_lt p y.1⟩)
  rw [List.length_map] at this
  have := hg.len
  omega
theorem placeE_zero {s : List Place} {k : Nat} {y : Place} (hk : s[k]? = some y) (hpf : PF p y) (hl : ∀ z, s[k + 1]? = some z → link p y z) : placeE p s k = 0 := by
  obtain ⟨pn, st, un⟩ := y
  have h0 := hpf.pr
  obtain ⟨pr, hpr, hn, hso⟩ := stepsOf_get h0
  have hst := hpf.st
  have hun := hpf.un
  have hwt := hpf.wt
  simp only [hso] at hst hun hwt
  simp only at hpr h0
  rw [placeE_eq hk hpr h0]
  have i1 : inB st 0 pr.2.length = true := by simp [inB]; omega
  have i2 : inB un (-1) 1001000000000 = true := by simp [inB]; omega
  rw [i1, i2]
  have hlt := (List.getElem?_eq_some_iff.1 hk).1
  by_cases q : k + 1 = s.length
  · by_cases u : 0 ≤ un
    · simp [q, hwt u]
    · simp [q, u]
  · have hz : s[k + 1]? = some (s[k + 1]'(by omega)) := List.getElem?_eq_getElem (by omega)
    obtain ⟨l1, l2, l3⟩ := hl _ hz
    simp only [hso] at l1 l2 l3
    subst l1
    have : kindAt pr.2 (st.toNat - 1) (fun y => decide (y.1 = 6) && nextIs s k y.2.1) = true := by
      simp only [kindAt, nextIs, hz] at l3 ⊢
      exact l3
    simp [q, l2, this]
theorem fe_none {g : Nat → Int} : ∀ {n : Nat}, (∀ k, k < n → g k = 0) → fe g n = 0
  | 0, _ => rfl
  | n + 1, h => fe_step (fe_none fun k hk => h k (by omega)) (h n (by omega))
theorem places_right (hz : procsE p = 0) {pl : List Place} (hpf : ∀ y ∈ pl, PF p y) (h : PChain p pl) : placesE p pl = 0 := by
  have := chain_len (GP.of hz) hpf h
  unfold placesE
  rw [if_neg (by rw [hz]; simp), if_neg (by omega)]
  refine fe_none fun k hk => ?_
  have hg : pl[k]? = some pl[k] := List.getElem?_eq_getElem hk
  exact placeE_zero hg (hpf _ (List.getElem_mem hk)) fun z hz => h k _ z hg hz
theorem places_procs {s : List Place} (h : placesE p s = 0) : procsE p = 0 := by
  unfold placesE at h
  split at h
  · rename_i q; exact absurd h q
  · rename_i q; simpa using q
/-- What Go answers. -/
theorem goE_right {s : List Place} {f : List Fact} {from' until' : Int} (h : goErr p s f from' until' = 0) (hz : (goE p s f from' until').2.2.2 = 0) : Right p from' until' (goE p s f from' until') := by
  obtain ⟨h1, h2, h3, h4⟩ := ok0 h
  refine runs_right h1 (goE_run h) h3 (places_chain h4) ⟨by simp [m0], by intro i c d h; simp [m0] at h, Int.le_refl _⟩ hz
theorem goE_bad {s : List Place} {f : List Fact} {from' until' : Int} (h : (goE p s f from' until').2.2.2 ≠ 0) : goE p s f from' until' = ([], [], 0, (goE p s f from' until').2.2.2) := by
  by_cases q : goErr p s f from' until' = 0
  · have hr := goE_run q
    generalize goE p s f from' until' = o at h hr
    generalize m0 s from' = m at hr
    induction hr with
    | fin h1 => exact absurd rfl h
    | stop h1 h2 => exact absurd rfl h
    | err h1 h2 => rfl
    | go h1 h2 h3 ih => exact ih h
  · have e := goE_err (p := p) (s := s) (f := f) (from' := from') (until' := until') rfl q
    rw [e]
theorem ok_zero {p : List Prc} {s : List Place} {f : List Fact} {from' until' : Int} (h : (goE p s f from' until').2.2.2 = 0) : goErr p s f from' until' = 0 := by
  by_cases q : goErr p s f from' until' = 0
  · exact q
  · rw [goE_err rfl q] at h; exact h
/-- A did breaks the law. -/
def badD (from' n : Int) (l : List Did) (k : Nat) : Bool := match l[k]? with
  | none => false
  | some d => decide (d.1 < from') || decide (n < d.1) || (match k with | 0 => false | j + 1 => (match l[j]? with | some c => decide (d.1 < c.1) | none => false))
theorem right_bad {from' until' : Int} {o : Out} (h : Right p from' until' o) (k : Nat) : badD from' o.2.2.1 o.1 k = false := by
  unfold badD
  split
  · rfl
  · rename_i d hd
    have h1 := h.lo d (List.mem_of_getElem? hd)
    cases k with
    | zero => simp; omega
    | succ j =>
      have hl := (List.getElem?_eq_some_iff.1 hd).1
      have hc : o.1[j]? = some o.1[j] := List.getElem?_eq_getElem (by omega)
      have := h.up j _ d hc hd
      simp [hc]
      omega
section
variable {h : Hp} {k : Nat} {kk : IntKind} {K : V → List Nat → Prop} {l : List Did} {a : Did}
theorem did_ia (e : l[k]? = some a) : iaddrK h (.ro l.length (fl didCd l)) (.int kk k) 2 K ⟨⟩ = K (.rp (fl didCd l) (k * 2)) [] := iaddr_fl rfl (by decide) e
theorem did_l0 (e : l[k]? = some a) : ldA h (.rp (fl didCd l) (k * 2)) none = some (.int .i64 a.1) := ld_fl0 (n := 2) rfl (by decide) e
end
theorem ProcsPlacesAreRight (p : List Prc) (s : List Place) (f : List Fact) (from' until' : Int) (hok : ∀ x ∈ p, procOk x) (hl : p.length < 2 ^ 62) :
    OkF Try.prog 4 [.ro p.length (fl procCd p), .ro s.length (fl placeCd s), .ro f.length (fl factCd f), .int .i64 from', .int .i64 until'] (.bool true, []) := by
  have e62 := Go.Ex.e62
  have hsm := goE_small p s f from' until'
  have h1 := Go_ok p s f from' until' hok hl
  have hbad := @goE_bad p s f from' until'
  have hz := @ok_zero p s f from' until'
  have hr := fun q => @goE_right p s f from' until' (hz q) q
  generalize goE p s f from' until' = o at hsm h1 hbad hz hr
  obtain ⟨a, x, n, e⟩ := o
  simp only at hbad hz hr hsm
  simp only [outV] at h1
  refine OkF.W0 hm h4 (of_decide_eq_true rfl) ?_
  unfold c4
  simp -dsimp
  refine call_one h1 (okRes_of (by simp)) ?_
  simp -dsimp
  by_cases he : e = 0
  case neg =>
    have := hbad he
    injection this with a1 a2
    injection a2 with a2 a3
    injection a3 with a3 _
    subst a1 a2 a3
    simp -dsimp [he]
    refine call_bool awake_ok ?_
    simp -dsimp
  have hR := hr he
  have hE := hz he
  obtain ⟨hg, hF, hO, hP⟩ := ok0 hE
  have hP' := places_right (places_procs hP) hR.pf hR.ci
  simp only at hP'
  have hnow := hR.now
  have hlast := hR.last
  simp only at hnow hlast
  subst he
  simp -dsimp
  refine loop_to 15 a.length (fun k t => t.t 15 = .int .i64 k ∧ t.t 11 = .ro a.length (fl didCd a) ∧ t.t 3 = .int .i64 from' ∧ t.t 13 = .int .i64 n ∧ t.t 0 = .ro p.length (fl procCd p) ∧ t.t 12 = .ro x.length (fl placeCd x) ∧ t.t 4 = .int .i64 until') (fun k t h => h.1) (by simp -dsimp) (fun k t hk hI => ?_)
  obtain ⟨i15, i11, i3, i13, i0, i12, i4⟩ := hI
  by_cases hlt : k < a.length
  · have hlt' : (k : Int) < (a.length : Int) := by omega
    have hw : IntKind.i64.wrap ((k : Int) + 1) = (k : Int) + 1 := IntWalk.i64_in _ (by omega)
    have hgk : a[k]? = some a[k] := List.getElem?_eq_getElem hlt
    have hb := right_bad hR k
    simp only at hb
    generalize a[k] = d at hgk
    have hb1 : ¬ d.1 < from' ∧ ¬ n < d.1 := by
      unfold badD at hb
      rw [hgk] at hb
      simp only [Bool.or_eq_false_iff, decide_eq_false_iff_not] at hb
      exact hb.1
    unfold l4_0
    rcases k with _ | j
    · have z1 : ∀ h K, iaddrK h (.ro a.length (fl didCd a)) (.int .i64 0) 2 K ⟨⟩ = K (.rp (fl didCd a) (0 * 2)) [] := fun h K => did_ia (kk := .i64) hgk
      have z2 : ∀ h, ldA h (.rp (fl didCd a) 0) none = some (.int .i64 d.1) := fun h => by
        have := did_l0 (h := h) hgk
        simpa using this
      simp -dsimp [i15, i11, i3, i13, hlt, z1, z2, hb1.1, hb1.2]
      exact ⟨IntWalk.i64_in _ (by decide), i0, i12, i4⟩
    · have hgj : a[j]? = some a[j] := List.getElem?_eq_getElem (by omega)
      generalize a[j] = c at hgj
      have hb2 : ¬ d.1 < c.1 := by
        unfold badD at hb
        rw [hgk] at hb
        simp only [Bool.or_eq_false_iff, decide_eq_false_iff_not, hgj] at hb
        exact hb.2
      have hlt2 : (j : Int) + 1 < (a.length : Int) := by omega
      have hw2 : IntKind.i64.wrap ((j : Int) + 1 + 1) = (j : Int) + 1 + 1 := IntWalk.i64_in _ (by omega)
      have hw3 : IntKind.i64.wrap (j : Int) = (j : Int) := IntWalk.i64_in _ (by omega)
      have z1 : ∀ h K, iaddrK h (.ro a.length (fl didCd a)) (.int .i64 ((j : Int) + 1)) 2 K ⟨⟩ = K (.rp (fl didCd a) ((j + 1) * 2)) [] := fun h K => did_ia (kk := .i64) hgk
      have hpos : (0 : Int) < (j : Int) + 1 := by omega
      simp -dsimp [i15, i11, i3, i13, hlt2, hw2, hw3, z1, did_l0 hgk, hb1.1, hb1.2, hpos, did_ia hgj, did_l0 hgj, hb2]
      exact ⟨hlt, i0, i12, i4⟩
  · have hkl : k = a.length := by omega
    subst hkl
    unfold l4_0
    simp -dsimp [i15, i11, i0, i12]
    refine call_int (CheckPlaces_ok p x hok hl) ?_
    simp -dsimp [hP', i12, i13, i4, i3]
    by_cases hx : x = []
    · subst hx
      simp -dsimp [i12, i13, i4, i3, hnow.1, hnow.2]
      refine call_bool awake_ok ?_
      simp -dsimp
    · have hn : n = until' := by rcases hlast with q | q; exact absurd q hx; exact q
      subst hn
      simp -dsimp [hx, i12, i13, i4, i3, hnow.1, hnow.2]
      refine call_bool awake_ok ?_
      simp -dsimp
end Go.Proofs.P6
