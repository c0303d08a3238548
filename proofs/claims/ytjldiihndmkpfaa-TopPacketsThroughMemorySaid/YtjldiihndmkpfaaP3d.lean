/- Banks: their check, their copies, votes; both sides. -/
import Derived.Test.YtjldiihndmkpfaaP3c
set_option linter.unusedVariables false
set_option linter.unusedSimpArgs false
set_option maxRecDepth 10000
set_option maxHeartbeats 4000000
namespace Go.Proofs.P3
open Go.Ex
abbrev ic : Cd Int := Cd.int .i64
/-- A row of numbers that only reads. -/
abbrev rI (l : List Int) : V := .ro l.length (fl ic l)
abbrev Bank := List Int × List Int
def bankCd : Cd Bank := .pair (.slice ic) (.slice ic)
abbrev bkV (b : Bank) : V := .agg [rI b.1, rI b.2]
section
variable {h : Hp} {k : Nat} {kk : IntKind} {K : V → List Nat → Prop} {l : List Int} {a : Int}
theorem i_ia (e : l[k]? = some a) : iaddrK h (.ro l.length (fl ic l)) (.int kk k) 1 K ⟨⟩ = K (.rp (fl ic l) k) [] := by
  have := iaddr_fl (d := ic) (n := 1) (kk := kk) (h := h) (K := K) rfl (by decide) e
  rwa [Nat.mul_one] at this
theorem i_ld (e : l[k]? = some a) : ldA h (.rp (fl ic l) k) none = some (.int .i64 a) := by
  have := ld_fl0 (d := ic) (n := 1) (h := h) rfl (by decide) e
  rw [Nat.mul_one] at this
  exact this
end
theorem equalI_ok (l m : List Int) (hl : l.length < 2 ^ 62) : OkF Try.prog 24 [rI l, rI m] (.bool (decide (l = m)), []) := by
  refine OkF.W0 hm h24 (of_decide_eq_true rfl) ?_
  unfold c24
  simp -dsimp
  refine condK_of ?_ ?_ <;> intro q <;> simp -dsimp [q]
  · have : l ≠ m := fun e => by subst e; simp at q
    simp [this]
  have hlm : l.length = m.length := by simp at q; omega
  refine for_lt l.length (fun k s => s.t 0 = .ro l.length (fl ic l) ∧ s.t 1 = .ro m.length (fl ic m) ∧ ∀ i, i < k → l[i]? = m[i]?) rfl hl (by simp -dsimp) (by simp -dsimp) (by simp -dsimp) (fun k s hk hI hi hn => ?_) (fun s hI hi hn => ?_)
  · obtain ⟨i0, i1, iu⟩ := hI
    have hg : l[k]? = some l[k] := List.getElem?_eq_getElem hk
    have hg' : m[k]? = some m[k] := List.getElem?_eq_getElem (by omega)
    generalize l[k] = a at hg
    generalize m[k] = b at hg'
    unfold k24_0
    simp -dsimp [i0, i1, hi, hn, i_ia hg, i_ld hg, i_ia hg', i_ld hg']
    refine condK_of ?_ ?_ <;> intro q2 <;> simp -dsimp [q2, i0, i1, hi, hn]
    · have : l ≠ m := fun e => by
        subst e
        rw [hg] at hg'
        injection hg' with hg'
        simp [hg'] at q2
      simp [this]
    · intro i hik
      by_cases hik' : i = k
      · subst hik'
        rw [hg, hg']
        simpa using q2
      · exact iu i (by omega)
  · obtain ⟨i0, i1, iu⟩ := hI
    have : l = m := by
      apply List.ext_getElem?
      intro i
      by_cases hi : i < l.length
      · exact iu i hi
      · rw [List.getElem?_eq_none (by omega), List.getElem?_eq_none (by omega)]
    simp -dsimp [this]
def inC (x : Int) : Prop := 0 ≤ x ∧ x ≤ 4194303
def inW (x : Int) : Prop := 0 ≤ x ∧ x ≤ 65535
theorem inC_iff {x : Int} : inB x 0 4194303 = true ↔ inC x := by simp [inB, inC]
theorem inW_iff {x : Int} : inB x 0 65535 = true ↔ inW x := by simp [inB, inW]
def bankE1 (b : Bank) (k : Nat) : Int := match b.1[k]?, b.2[k]? with
  | some c, some s => if inB c 0 4194303 = true ∧ inB s 0 65535 = true then 0 else 1
  | _, _ => 0
def bankE (b : Bank) : Int := if b.1.length = 0 then 9 else if 2000 < b.1.length then 2 else if b.2.length ≠ b.1.length then 3 else fe (bankE1 b) b.1.length
structure BankOk (b : Bank) : Prop where
  pos : 0 < b.1.length
  most : b.1.length ≤ 2000
  len : b.2.length = b.1.length
  c : ∀ x ∈ b.1, inC x
  s : ∀ x ∈ b.2, inW x
theorem bank_good {b : Bank} (h : bankE b = 0) : BankOk b := by
  unfold bankE at h
  split at h
  · cases h
  split at h
  · cases h
  split at h
  · cases h
  rename_i h1 h2 h3
  have h3 : b.2.length = b.1.length := by omega
  have key : ∀ k (hk : k < b.1.length), inC b.1[k] ∧ inW (b.2[k]'(by omega)) := fun k hk => by
    have := fe_zero h k hk
    unfold bankE1 at this
    rw [List.getElem?_eq_getElem hk, List.getElem?_eq_getElem (by omega)] at this
    simp only at this
    split at this
    · rename_i q; exact ⟨inC_iff.1 q.1, inW_iff.1 q.2⟩
    · cases this
  refine ⟨by omega, by omega, h3, fun x hx => ?_, fun x hx => ?_⟩
  · obtain ⟨i, hi, rfl⟩ := List.getElem_of_mem hx
    exact (key i hi).1
  · obtain ⟨i, hi, rfl⟩ := List.getElem_of_mem hx
    exact (key i (by omega)).2
theorem bank_mk {b : Bank} (h : BankOk b) : bankE b = 0 := by
  unfold bankE
  have := h.pos; have := h.most; have := h.len
  rw [if_neg (by omega), if_neg (by omega), if_neg (by omega)]
  have key : ∀ n, fe (bankE1 b) n = 0 := by
    intro n
    induction n with
    | zero => rfl
    | succ n ih =>
      refine fe_step ih ?_
      unfold bankE1
      split
      · rename_i c s h1 h2
        rw [if_pos ⟨inC_iff.2 (h.c c (List.mem_of_getElem? h1)), inW_iff.2 (h.s s (List.mem_of_getElem? h2))⟩]
      · rfl
  exact key _
theorem CheckBank_ok (b : Bank) : OkF Try.prog 85 [bkV b] (.int .i64 (bankE b), []) := by
  refine OkF.W0 hm h85 (of_decide_eq_true rfl) ?_
  unfold c85
  obtain ⟨c, s⟩ := b
  by_cases h0 : c.length = 0
  · simp -dsimp [bankE, h0]
  have h0' : ¬ c = [] := fun h => h0 (by rw [h]; rfl)
  by_cases h1 : 2000 < c.length
  · have h1' : (2000 < (c.length : Int)) := by omega
    have e : bankE (c, s) = 2 := by unfold bankE; rw [if_neg h0, if_pos h1]
    simp -dsimp [h1', h0', e]
  have h1' : ¬ (2000 < (c.length : Int)) := by omega
  by_cases h2 : s.length = c.length
  · have hfe : bankE (c, s) = fe (bankE1 (c, s)) c.length := by unfold bankE; rw [if_neg h0, if_neg h1, if_neg (by simp [h2])]
    simp -dsimp [h1', h0', h2]
    refine for_lt c.length (fun k t => t.t 1 = .pt 0 0 0 ∧ t.h 0 = some ⟨0, 0, [rI c, rI s], none⟩ ∧ t.t 24 = rI c ∧ fe (bankE1 (c, s)) k = 0) rfl (by omega) (by simp -dsimp [fe, h2]) (by simp -dsimp) (by simp -dsimp [h2]) (fun k t hk hI hi hn => ?_) (fun t hI hi hn => ?_)
    · obtain ⟨i1, ih, i24, iu⟩ := hI
      have hg : c[k]? = some c[k] := List.getElem?_eq_getElem hk
      have hg' : s[k]? = some (s[k]'(by omega)) := List.getElem?_eq_getElem (by omega)
      generalize c[k] = x at hg
      generalize s[k]'(by omega) = y at hg'
      have hE : bankE1 (c, s) k = if inB x 0 4194303 = true ∧ inB y 0 65535 = true then 0 else 1 := by unfold bankE1; simp only [hg, hg']
      have bad : bankE1 (c, s) k = 1 → bankE (c, s) = 1 := fun h => by rw [hfe, fe_stop iu (by rw [h]; decide) hk, h]
      unfold k85_0
      simp -dsimp [i1, ih, i24, hi, hn, i_ia hg, i_ld hg]
      refine call_bool (In_ok _ _ _) ?_
      simp -dsimp
      refine wantF_of ?_ ?_ <;> intro a1 <;> simp -dsimp [a1, i1, ih, i_ia hg', i_ld hg']
      case refine_2 => rw [bad (by rw [hE]; simp at a1; simp [a1])]
      refine call_bool (In_ok _ _ _) ?_
      simp -dsimp
      refine condK_of ?_ ?_ <;> intro a2 <;> simp -dsimp [i1, ih, i24, hi, hn]
      · rw [bad (by rw [hE]; simp at a2; simp [a2])]
      · exact fe_step iu (by rw [hE]; simp at a1 a2; simp [a1, a2])
    · obtain ⟨i1, ih, i24, iu⟩ := hI
      simp -dsimp [hfe, iu]
  · have e : bankE (c, s) = 3 := by unfold bankE; rw [if_neg h0, if_neg h1, if_pos h2]
    have h2' : ¬ ((s.length : Int) = (c.length : Int)) := by omega
    simp -dsimp [h1', h0', h2', e]
theorem CheckBankR_ok (b : Bank) : OkF Try.prog 87 [bkV b] (.int .i64 (bankE b), []) := by
  refine OkF.W0 hm h87 (of_decide_eq_true rfl) ?_
  unfold c87
  obtain ⟨c, s⟩ := b
  by_cases h0 : c.length = 0
  · simp -dsimp [bankE, h0]
  have h0' : ¬ c = [] := fun h => h0 (by rw [h]; rfl)
  by_cases h1 : 2000 < c.length
  · have h1' : (2000 < (c.length : Int)) := by omega
    have e : bankE (c, s) = 2 := by unfold bankE; rw [if_neg h0, if_pos h1]
    simp -dsimp [h1', h0', e]
  have h1' : ¬ (2000 < (c.length : Int)) := by omega
  by_cases h2 : s.length = c.length
  · have hfe : bankE (c, s) = fe (bankE1 (c, s)) c.length := by unfold bankE; rw [if_neg h0, if_neg h1, if_neg (by simp [h2])]
    simp -dsimp [h1', h0', h2]
    refine for_lt c.length (fun k t => t.t 1 = .pt 0 0 0 ∧ t.h 0 = some ⟨0, 0, [rI c, rI s], none⟩ ∧ t.t 24 = rI c ∧ fe (bankE1 (c, s)) k = 0) rfl (by omega) (by simp -dsimp [fe, h2]) (by simp -dsimp) (by simp -dsimp [h2]) (fun k t hk hI hi hn => ?_) (fun t hI hi hn => ?_)
    · obtain ⟨i1, ih, i24, iu⟩ := hI
      have hg : c[k]? = some c[k] := List.getElem?_eq_getElem hk
      have hg' : s[k]? = some (s[k]'(by omega)) := List.getElem?_eq_getElem (by omega)
      generalize c[k] = x at hg
      generalize s[k]'(by omega) = y at hg'
      have hE : bankE1 (c, s) k = if inB x 0 4194303 = true ∧ inB y 0 65535 = true then 0 else 1 := by unfold bankE1; simp only [hg, hg']
      have bad : bankE1 (c, s) k = 1 → bankE (c, s) = 1 := fun h => by rw [hfe, fe_stop iu (by rw [h]; decide) hk, h]
      unfold k87_0
      simp -dsimp [i1, ih, i24, hi, hn, i_ia hg, i_ld hg]
      refine call_bool (within_ok _ _ _) ?_
      simp -dsimp
      refine wantF_of ?_ ?_ <;> intro a1 <;> simp -dsimp [a1, i1, ih, i_ia hg', i_ld hg']
      case refine_2 => rw [bad (by rw [hE]; simp at a1; simp [a1])]
      refine call_bool (within_ok _ _ _) ?_
      simp -dsimp
      refine condK_of ?_ ?_ <;> intro a2 <;> simp -dsimp [i1, ih, i24, hi, hn]
      · rw [bad (by rw [hE]; simp at a2; simp [a2])]
      · exact fe_step iu (by rw [hE]; simp at a1 a2; simp [a1, a2])
    · obtain ⟨i1, ih, i24, iu⟩ := hI
      simp -dsimp [hfe, iu]
  · have e : bankE (c, s) = 3 := by unfold bankE; rw [if_neg h0, if_neg h1, if_pos h2]
    have h2' : ¬ ((s.length : Int) = (c.length : Int)) := by omega
    simp -dsimp [h1', h0', h2', e]
theorem Same_ok (a b : Bank) (h1 : a.1.length < 2 ^ 62) (h2 : a.2.length < 2 ^ 62) : OkF Try.prog 40 [bkV a, bkV b] (.bool (decide (a = b)), []) := by
  refine OkF.W0 hm h40 (of_decide_eq_true rfl) ?_
  unfold c40
  obtain ⟨a1, a2⟩ := a
  obtain ⟨b1, b2⟩ := b
  simp -dsimp
  refine call_bool (equalI_ok a1 b1 h1) ?_
  simp -dsimp
  by_cases q : a1 = b1
  · simp -dsimp [q]
    refine call_bool (equalI_ok a2 b2 h2) ?_
    simp -dsimp
    exact fun _ => q
  · simp -dsimp [q]
theorem cloneI_ok (l : List Int) (hl : l.length < 2 ^ 40) (hne : l ≠ []) : OkF Try.prog 125 [rI l] (.sl 0 0 0 l.length none, [⟨0, 1, fl ic l, none⟩]) :=
  clone_ok (d := ic) (bytes := 8) (zero := [.int .i64 0]) hm h125 rfl l (by omega) (by omega) hne
/-- A copy of a bank: of its own memory. -/
def cpR (b : Bank) : V × List LB := (.agg [.sl 0 0 0 b.1.length none, .sl 1 0 0 b.2.length none], [⟨0, 1, fl ic b.1, none⟩, ⟨0, 1, fl ic b.2, none⟩])
theorem copied_ok (b : Bank) (h : BankOk b) : OkF Try.prog 86 [bkV b] (cpR b) := by
  obtain ⟨c, s⟩ := b
  have p := h.pos; have m := h.most; have e := h.len
  simp only at p m e
  have hc := cloneI_ok c (by omega) (fun h => by subst h; simp at p)
  have hs := cloneI_ok s (by omega) (fun h => by subst h; simp at e; omega)
  refine OkF.ofG hm h86 (of_decide_eq_true rfl) ?_ ?_
  · unfold c86
    simp -dsimp
    refine call_own hc ?_ ?_
    · exact okRes_of (by simp)
    simp -dsimp [addB, callRd_one, callWr_one]
    refine call_own hs ?_ ?_
    · exact okRes_of (by simp)
    simp -dsimp [addB, callRd_one, callWr_one, fillS]
    refine ⟨[2, 3], by decide, ?_, ?_⟩
    · simp [expV, exp1, expC, ixOf, upd, cpR]
    · simp [expB, roL, upd, cpR]
  · intro b hb
    simp [cpR] at hb
    rcases hb with rfl | rfl <;> exact ⟨fl_pure _, rfl⟩
theorem copiedR_ok (b : Bank) (h : BankOk b) : OkF Try.prog 88 [bkV b] (cpR b) := by
  obtain ⟨c, s⟩ := b
  have p := h.pos; have m := h.most; have e := h.len
  simp only at p m e
  have hc := cloneI_ok c (by omega) (fun h => by subst h; simp at p)
  have hs := cloneI_ok s (by omega) (fun h => by subst h; simp at e; omega)
  refine OkF.ofG hm h88 (of_decide_eq_true rfl) ?_ ?_
  · unfold c88
    simp -dsimp
    refine call_own hc ?_ ?_
    · exact okRes_of (by simp)
    simp -dsimp [addB, callRd_one, callWr_one]
    refine call_own hs ?_ ?_
    · exact okRes_of (by simp)
    simp -dsimp [addB, callRd_one, callWr_one, fillS]
    refine ⟨[2, 3], by decide, ?_, ?_⟩
    · simp [expV, exp1, expC, ixOf, upd, cpR]
    · simp [expB, roL, upd, cpR]
  · intro b hb
    simp [cpR] at hb
    rcases hb with rfl | rfl <;> exact ⟨fl_pure _, rfl⟩
end Go.Proofs.P3
