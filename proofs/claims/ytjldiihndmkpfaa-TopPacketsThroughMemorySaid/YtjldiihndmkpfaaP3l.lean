/- Scrubbed in time: in plain lists. -/
import Derived.Test.YtjldiihndmkpfaaP3j
set_option linter.unusedVariables false
set_option linter.unusedSimpArgs false
set_option maxRecDepth 10000
set_option maxHeartbeats 8000000
namespace Go.Proofs.P3
open Go.Ex
def codI (w : Int) : Int := ((codedN w.toNat : Nat) : Int)
theorem codI_in (w : Int) : inC (codI w) := by
  have := codedN_lt w.toNat
  unfold codI inC
  omega
theorem codE_codI {w : Int} (h : inW w) : codE w = (codI w, 0) := by
  unfold codE
  rw [if_pos (inW_iff.2 h)]
  rfl
theorem repI_codI (w : Int) : repI (codI w) = codI w := by
  unfold repI codI
  rw [Int.toNat_natCast, repairedN_not (by rw [kind_coded]; decide)]
theorem repI_flip (w : Int) {n : Int} (h1 : 1 ≤ n) (h2 : n ≤ 22) : repI (xorI (codI w) n) = codI w := by
  unfold repI xorI codI
  simp only [Int.toNat_natCast]
  unfold repairedN
  have := kind_one w.toNat (a := n.toNat) (by omega) (by omega)
  rw [show bt n.toNat = 2 ^ (n.toNat - 1) from rfl, this]
  simp only [if_true]
  rw [Nat.xor_assoc, Nat.xor_self, Nat.xor_zero]
theorem dec_codI {w : Int} (h : inW w) : (decE (codI w)).1 = w ∧ (decE (codI w)).2.2 = 0 := by
  have hl := codedN_lt w.toNat
  unfold codI
  rw [dec_nat hl]
  unfold decodedN
  rw [kind_coded]
  simp only [show ¬ (1 = 3) by decide, if_false]
  rw [repairedN_not (by rw [kind_coded]; decide), word_coded (by have := h.1; have := h.2; omega)]
  exact ⟨Int.toNat_of_nonneg h.1, rfl⟩
theorem dec_flip {w : Int} (h : inW w) {n : Int} (h1 : 1 ≤ n) (h2 : n ≤ 22) : (decE (xorI (codI w) n)).1 = w ∧ (decE (xorI (codI w) n)).2.2 = 0 := by
  have hl := codedN_lt w.toNat
  have hx : codedN w.toNat ^^^ bt n.toNat < 2 ^ 22 := Nat.xor_lt_two_pow hl (Nat.pow_lt_pow_right (by decide) (by omega))
  have hr := repI_flip w h1 h2
  unfold xorI codI
  unfold repI xorI codI at hr
  simp only [Int.toNat_natCast] at hr ⊢
  rw [dec_nat hx]
  unfold decodedN
  have := kind_one w.toNat (a := n.toNat) (by omega) (by omega)
  rw [show bt n.toNat = 2 ^ (n.toNat - 1) from rfl] at hr ⊢
  rw [this]
  simp only [show ¬ (2 = 3) by decide, if_false]
  have hr' : repairedN (codedN w.toNat ^^^ 2 ^ (n.toNat - 1)) = codedN w.toNat := by exact_mod_cast hr
  rw [hr', word_coded (by have := h.1; have := h.2; omega)]
  exact ⟨Int.toNat_of_nonneg h.1, rfl⟩
theorem lAt_set {c : List Int} {p i : Nat} {y : Int} (hp : p < c.length) : lAt (c.set p y) i = if i = p then y else lAt c i := by
  unfold lAt
  by_cases h : i = p
  · subst h
    rw [if_pos rfl, List.getElem?_set_self hp]; rfl
  · rw [if_neg h, List.getElem?_set_ne (fun e => h e.symm)]
theorem ext_lAt {a b : List Int} (h1 : a.length = b.length) (h2 : ∀ i, i < a.length → lAt a i = lAt b i) : a = b := by
  apply List.ext_getElem?
  intro i
  by_cases hi : i < a.length
  · rw [get_lAt hi, get_lAt (by omega), h2 i hi]
  · rw [List.getElem?_eq_none (by omega), List.getElem?_eq_none (by omega)]
theorem kind1_rep {x : Int} (h : inC x) (hk : (kindI x).1 = 1) : repI x = x := repI_not h (by omega)
/-- All words gone through from the first one on. -/
theorem scr_from0 {moment : Int} {c : List Int} (hc : ∀ x ∈ c, inC x) : ∀ k, k ≤ c.length → ∀ i, lAt (scr 0 moment c k).2 i = if i < k then repI (lAt c i) else lAt c i
  | 0, _, i => by simp [scr]
  | k + 1, hk, i => by
    have h0 : 0 < c.length := by omega
    have ih := scr_from0 (moment := moment) hc k (by omega)
    have hl := scr_len 0 moment c k
    have hin := scr_in (frm := 0) (moment := moment) h0 hc k
    have hm : (0 + k) % c.length = k := by rw [Nat.zero_add]; exact Nat.mod_eq_of_lt (by omega)
    have hk' := ih k
    rw [if_neg (by omega)] at hk'
    unfold scr
    rw [hm]
    split
    · rename_i q
      rw [hk'] at q
      rw [ih i]
      by_cases e : i = k
      · subst e
        rw [if_neg (by omega), if_pos (by omega), kind1_rep (lAt_in hc (by omega)) q]
      · by_cases e2 : i < k
        · rw [if_pos e2, if_pos (by omega)]
        · rw [if_neg e2, if_neg (by omega)]
    · simp only
      rw [lAt_set (by rw [hl.1]; omega), hk', ih i]
      by_cases e : i = k
      · subst e
        rw [if_pos rfl, if_pos (by omega)]
      · rw [if_neg e]
        by_cases e2 : i < k
        · rw [if_pos e2, if_pos (by omega)]
        · rw [if_neg e2, if_neg (by omega)]
/-- The codes of words. -/
def cods (ws : List Int) : List Int := ws.map codI
theorem cods_lAt {ws : List Int} {i : Nat} (h : i < ws.length) : lAt (cods ws) i = codI (lAt ws i) := by
  unfold lAt cods
  rw [List.getElem?_map, List.getElem?_eq_getElem h]
  rfl
theorem cods_in (ws : List Int) : ∀ x ∈ cods ws, inC x := fun x hx => by
  obtain ⟨w, _, rfl⟩ := List.mem_map.1 hx
  exact codI_in w
theorem cods_len (ws : List Int) : (cods ws).length = ws.length := by simp [cods]
/-- A word's code, or that with one bit flipped. -/
def Near (ws c : List Int) : Prop := c = cods ws ∨ ∃ x : Flip, FlipOk ws.length x ∧ c = flip1 (cods ws) x
theorem near_in {ws c : List Int} (h : Near ws c) : (∀ x ∈ c, inC x) ∧ c.length = ws.length := by
  rcases h with rfl | ⟨x, hx, rfl⟩
  · exact ⟨cods_in ws, cods_len ws⟩
  · exact ⟨flip1_in (cods_in ws) (by rw [cods_len]; exact hx), by rw [flip1_len, cods_len]⟩
theorem flip1_lAt {ws : List Int} {x : Flip} (hx : FlipOk ws.length x) {i : Nat} (hi : i < ws.length) : lAt (flip1 (cods ws) x) i = if i = x.2.1.toNat then xorI (codI (lAt ws i)) x.2.2 else codI (lAt ws i) := by
  have h1 := hx.p0; have h2 := hx.p1
  unfold flip1
  rw [lAt_set (by rw [cods_len]; omega)]
  split
  · rename_i e
    subst e
    rw [cods_lAt hi]
  · rw [cods_lAt hi]
theorem near_rep {ws c : List Int} (h : Near ws c) {i : Nat} (hi : i < ws.length) : repI (lAt c i) = codI (lAt ws i) := by
  rcases h with rfl | ⟨x, hx, rfl⟩
  · rw [cods_lAt hi, repI_codI]
  · rw [flip1_lAt hx hi]
    split
    · exact repI_flip _ hx.b0 hx.b1
    · exact repI_codI _
theorem near_dec {ws c : List Int} (h : Near ws c) (hw : ∀ w ∈ ws, inW w) {i : Nat} (hi : i < ws.length) : (decE (lAt c i)).1 = lAt ws i ∧ (decE (lAt c i)).2.2 = 0 := by
  have hwi : inW (lAt ws i) := by
    have := get_lAt hi
    exact hw _ (List.mem_of_getElem? this)
  rcases h with rfl | ⟨x, hx, rfl⟩
  · rw [cods_lAt hi]; exact dec_codI hwi
  · rw [flip1_lAt hx hi]
    split
    · exact dec_flip hwi hx.b0 hx.b1
    · exact dec_codI hwi
theorem near_scr {ws c : List Int} (h : Near ws c) (moment : Int) : (scr 0 moment c ws.length).2 = cods ws := by
  obtain ⟨h1, h2⟩ := near_in h
  refine ext_lAt (by rw [(scr_len 0 moment c ws.length).1, cods_len, h2]) fun i hi => ?_
  rw [(scr_len 0 moment c ws.length).1, h2] at hi
  rw [scr_from0 h1 ws.length (by omega) i, if_pos hi, near_rep h hi, cods_lAt hi]
theorem near_none {ws c : List Int} (h : Near ws c) (hw : ∀ w ∈ ws, inW w) : ∀ k, k ≤ ws.length → lostL c k = [] ∧ wrongL c ws k = []
  | 0, _ => ⟨rfl, rfl⟩
  | k + 1, hk => by
    obtain ⟨i1, i2⟩ := near_none h hw k (by omega)
    obtain ⟨d1, d2⟩ := near_dec h hw (i := k) (by omega)
    unfold lostL wrongL
    rw [if_neg (by rw [d2]; simp), if_neg (fun e => e.2 d1)]
    exact ⟨i1, i2⟩
/-- No two flips between two rounds. -/
structure Spread (n ev : Nat) (fs : List Flip) : Prop where
  ok : ∀ (i : Nat) x, fs[i]? = some x → FlipOk n x ∧ ((ev * i + 1 : Nat) : Int) ≤ x.1 ∧ x.1 ≤ ((ev * (i + 1) : Nat) : Int)
theorem spread_one {ws : List Int} {ev : Nat} {fs : List Flip} (h : Spread ws.length ev fs) (he : 1 ≤ ev) {k t : Nat} (ht : t ≤ ev * (k + 1)) : Near ws (flipTo (t : Int) (cods ws) (fs.drop k)).1 ∧ (t = ev * (k + 1) → (flipTo (t : Int) (cods ws) (fs.drop k)).2 = fs.drop (k + 1)) := by
  by_cases hk : k < fs.length
  · have hg : fs[k]? = some fs[k] := List.getElem?_eq_getElem hk
    rw [List.drop_eq_getElem_cons hk]
    generalize fs[k] = x at hg
    obtain ⟨x1, x2, x3⟩ := h.ok k x hg
    have e : flipTo (t : Int) (cods ws) (x :: fs.drop (k + 1)) = if x.1 ≤ (t : Int) then flipTo (t : Int) (flip1 (cods ws) x) (fs.drop (k + 1)) else (cods ws, x :: fs.drop (k + 1)) := rfl
    rw [e]
    by_cases q : x.1 ≤ (t : Int)
    · rw [if_pos q]
      have e2 : flipTo (t : Int) (flip1 (cods ws) x) (fs.drop (k + 1)) = (flip1 (cods ws) x, fs.drop (k + 1)) := by
        by_cases hk2 : k + 1 < fs.length
        · have hg2 : fs[k + 1]? = some fs[k + 1] := List.getElem?_eq_getElem hk2
          rw [List.drop_eq_getElem_cons hk2]
          generalize fs[k + 1] = y at hg2
          obtain ⟨y1, y2, y3⟩ := h.ok (k + 1) y hg2
          unfold flipTo
          rw [if_neg (by omega)]
        · rw [List.drop_eq_nil_of_le (by omega)]
          rfl
      rw [e2]
      exact ⟨.inr ⟨x, x1, rfl⟩, fun _ => rfl⟩
    · rw [if_neg q]
      exact ⟨.inl rfl, fun e => by omega⟩
  · rw [List.drop_eq_nil_of_le (by omega), List.drop_eq_nil_of_le (by omega)]
    exact ⟨.inl rfl, fun _ => rfl⟩
theorem rnd_spread {ws : List Int} {ev : Nat} {fs : List Flip} (h0 : 0 < ws.length) (h : Spread ws.length ev fs) (he : 1 ≤ ev) : ∀ k, (rnd ev ws.length (cods ws) fs k).2 = (cods ws, 0, fs.drop k)
  | 0 => by simp [rnd]
  | k + 1 => by
    have ih := rnd_spread h0 h he k
    have e1 : (rnd ev ws.length (cods ws) fs k).2.1 = cods ws := by rw [ih]
    have e2 : (rnd ev ws.length (cods ws) fs k).2.2.1 = 0 := by rw [ih]
    have e3 : (rnd ev ws.length (cods ws) fs k).2.2.2 = fs.drop k := by rw [ih]
    have hc : (k + 1) * ev = ev * (k + 1) := Nat.mul_comm ..
    obtain ⟨n1, n2⟩ := spread_one h he (k := k) (t := (k + 1) * ev) (by omega)
    unfold rnd
    simp only [e1, e2, e3]
    rw [n2 hc, near_scr n1, cods_len, Nat.zero_add, Nat.mod_self]
theorem live_spread {ws : List Int} {ev u : Nat} {fs : List Flip} (h0 : 0 < ws.length) (h : Spread ws.length ev fs) (he : 1 ≤ ev) : Near ws (liveS ev ws.length (cods ws) fs u).1 := by
  have hr := rnd_spread h0 h he (u / ev)
  unfold liveS
  simp only [hr]
  have : u ≤ ev * (u / ev + 1) := by
    have := Nat.div_add_mod u ev
    have := Nat.mod_lt u (show ev > 0 by omega)
    rw [Nat.mul_add]
    omega
  exact (spread_one h he this).1
theorem spread_flips {ws : List Int} {ev : Nat} {fs : List Flip} (h0 : 0 < ws.length) (h1 : ws.length ≤ 2000) (hw : ∀ w ∈ ws, inW w) (h : Spread ws.length ev fs) (he : 1 ≤ ev) (hl : fs.length ≤ 2000) : flipsE (cods ws, ws) fs = 0 := by
  have hb : bankE (cods ws, ws) = 0 := bank_mk ⟨by simp only [cods_len]; omega, by simp only [cods_len]; omega, by simp only [cods_len], cods_in ws, hw⟩
  unfold flipsE
  rw [if_neg (by rw [hb]; simp), if_neg (by omega)]
  simp only [cods_len]
  have key : ∀ k, k ≤ fs.length → fe (flipE1 ws.length fs) k = 0 := by
    intro k
    induction k with
    | zero => intro _; rfl
    | succ k ih =>
      intro hk
      refine fe_step (ih (by omega)) ?_
      have hg : fs[k]? = some (fs[k]'(by omega)) := List.getElem?_eq_getElem (by omega)
      generalize fs[k]'(by omega) = x at hg
      obtain ⟨x1, x2, x3⟩ := h.ok k x hg
      obtain ⟨a0, a1, a2, a3, a4, a5⟩ := x1
      unfold flipE1
      rw [hg]
      simp only
      rw [if_neg (by simp [inB]; omega), if_neg (by simp [inB]; omega), if_neg (by simp [inB]; omega), if_neg]
      cases k with
      | zero => simp [before]
      | succ k =>
        have hg2 : fs[k]? = some (fs[k]'(by omega)) := List.getElem?_eq_getElem (by omega)
        generalize fs[k]'(by omega) = y at hg2
        obtain ⟨y1, y2, y3⟩ := h.ok k y hg2
        simp only [before, hg2]
        simp
        omega
  exact key _ (Nat.le_refl _)
theorem spread_lost {ws : List Int} {ev u : Nat} {fs : List Flip} (h0 : 0 < ws.length) (h1 : ws.length ≤ 50) (hw : ∀ w ∈ ws, inW w) (h : Spread ws.length ev fs) (he : 1 ≤ ev) (he2 : ev ≤ 20) (hl : fs.length ≤ 50) (hu : u ≤ 2000) :
    lostS (cods ws, ws) (((ev : Nat) : Int), ((ws.length : Nat) : Int)) fs u = ([], 0) ∧ wrongS (cods ws, ws) (((ev : Nat) : Int), ((ws.length : Nat) : Int)) fs u = ([], 0) := by
  have hf := spread_flips h0 (by omega) hw h he (by omega)
  have hask : askE (cods ws, ws) (((ev : Nat) : Int), ((ws.length : Nat) : Int)) fs u = 0 := by
    have w : ((u / ev * ws.length : Nat) : Int) ≤ 1000000 := by
      have : u / ev * ws.length ≤ 2000 * 50 := Nat.mul_le_mul (Nat.le_trans (Nat.div_le_self _ _) hu) h1
      omega
    rw [Int.natCast_mul, Int.natCast_ediv] at w
    unfold askE
    rw [if_neg (by simpa using hf), if_neg (by simp [inB]; omega), if_neg (by simp only; omega)]
  have hn := live_spread (u := u) h0 h he
  obtain ⟨n1, n2⟩ := near_none hn hw ws.length (Nat.le_refl _)
  unfold lostS wrongS
  rw [if_neg (by simpa using hask), if_neg (by simpa using hask)]
  simp only [Int.toNat_natCast, cods_len]
  rw [n1, n2]
  exact ⟨rfl, rfl⟩
end Go.Proofs.P3
