/- Commands and entries. -/
import Derived.Test.YtaegjihmpgdfcaaP6f
set_option linter.unusedVariables false
set_option linter.unusedSimpArgs false
set_option maxRecDepth 10000
set_option maxHeartbeats 4000000
namespace Go.Proofs.P6
open Go.Ex
def inB (n lo hi : Int) : Bool := decide (lo ≤ n) && decide (n ≤ hi)
theorem inB_ok (n lo hi : Int) : OkF Try.prog 64 [.int .i64 n, .int .i64 lo, .int .i64 hi] (.bool (inB n lo hi), []) := In_ok n lo hi
theorem inBR_ok (n lo hi : Int) : OkF Try.prog 65 [.int .i64 n, .int .i64 lo, .int .i64 hi] (.bool (inB n lo hi), []) := within_ok n lo hi
theorem mom_eq (n : Int) : momB n = inB n 0 1000000000000 := rfl
def plC (c : UInt8) : Bool := decide (32 ≤ c.toNat) && decide (c.toNat ≤ 126)
def spc (o : Option UInt8) : Bool := match o with
  | some c => decide ((c.toNat : Int) = 32)
  | none => false
def plain (s : List UInt8) : Bool := s.all plC && !decide (s = [])
def cmd (s : List UInt8) : Bool := plain s && decide ((s.length : Int) ≤ 100) && !spc s[0]? && !spc s[s.length - 1]?
theorem plain_ok (s : List UInt8) (hs : s.length < 2 ^ 62) : OkF Try.prog 162 [.str s] (.bool (plain s), []) := by
  refine OkF.W0 hm h162 (of_decide_eq_true rfl) ?_
  unfold c162
  simp -dsimp
  refine for_lt s.length (fun k s' => s'.t 0 = .str s ∧ Upto plC s k) rfl hs (by simp -dsimp [Upto.zero]) (by simp) (by simp) (fun k s' hk hI hi hn => ?_) (fun s' hI hi hn => ?_)
  · obtain ⟨i1, i3⟩ := hI
    have hg : s[k]? = some s[k] := List.getElem?_eq_getElem hk
    generalize s[k] = c at hg
    have bad : plC c = false → plain s = false := fun h => by unfold plain; rw [all_false hg h]; rfl
    unfold k162_0
    simp -dsimp [i1, hi, hn, hg]
    repeat' (first
      | (refine condK_of ?_ ?_ <;> intro q <;> simp -dsimp [q, i1, hi, hn, hg])
      | (refine wantF_of ?_ ?_ <;> intro q <;> simp -dsimp [q, i1, hi, hn, hg]))
    all_goals
      simp only [decide_eq_true_eq, decide_eq_false_iff_not] at *
      first
      | exact bad (by (unfold plC; simp; omega))
      | exact i3.succ hg (by (unfold plC; simp; omega))
  · obtain ⟨i1, i3⟩ := hI
    simp -dsimp [i1, plain, i3.all]
theorem command_ok (s : List UInt8) (hs : s.length < 2 ^ 62) : OkF Try.prog 128 [.str s] (.bool (cmd s), []) := by
  refine OkF.W0 hm h128 (of_decide_eq_true rfl) ?_
  unfold c128
  simp -dsimp
  refine call_bool (plain_ok s hs) ?_
  by_cases hp : plain s = true
  · have hne : s ≠ [] := by
      intro h; subst h; simp [plain] at hp
    have hl : 0 < s.length := List.length_pos_iff.2 hne
    have h0 : s[0]? = some s[0] := List.getElem?_eq_getElem hl
    have h1 : s[s.length - 1]? = some s[s.length - 1] := List.getElem?_eq_getElem (by omega)
    have hw : IntKind.i64.wrap ((s.length : Int) - 1) = ((s.length - 1 : Nat) : Int) := wrap_pred hl hs
    generalize s[0] = a at h0
    generalize s[s.length - 1] = b at h1
    simp -dsimp [hp]
    repeat' (first
      | (refine wantT_of ?_ ?_ <;> intro q <;> simp -dsimp [q, h0, h1, hw]))
    all_goals (simp_all [cmd, spc] <;> omega)
  · have hp' : plain s = false := by simpa using hp
    simp -dsimp [hp', cmd]
theorem isCommand_ok (s : List UInt8) (hs : s.length < 2 ^ 62) : OkF Try.prog 116 [.str s] (.bool (cmd s), []) := by
  have e62 : (2 : Nat) ^ 62 = 4611686018427387904 := by decide
  refine OkF.W0 hm h116 (of_decide_eq_true rfl) ?_
  unfold c116
  simp -dsimp
  refine loop_to 3 s.length (fun k t => t.t 3 = .int .i64 k ∧ t.t 0 = .str s ∧ Upto plC s k) (fun k t h => h.1) ⟨by simp -dsimp, by simp -dsimp, Upto.zero _ _⟩ (fun k t hk hI => ?_)
  obtain ⟨i3, i0, iu⟩ := hI
  by_cases hlt : k < s.length
  · have hlt' : (k : Int) < (s.length : Int) := by omega
    have hg : s[k]? = some s[k] := List.getElem?_eq_getElem hlt
    have hw : IntKind.i64.wrap ((k : Int) + 1) = (k : Int) + 1 := IntWalk.i64_in _ (by omega)
    generalize s[k] = c at hg
    have bad : plC c = false → cmd s = false := fun h => by unfold cmd plain; rw [all_false hg h]; rfl
    unfold l116_0
    simp -dsimp [i3, i0, hlt', hg, hw]
    repeat' (first
      | (refine condK_of ?_ ?_ <;> intro q <;> simp -dsimp [q, i0, i3, hw, hg])
      | (refine wantF_of ?_ ?_ <;> intro q <;> simp -dsimp [q, i0, i3, hw, hg]))
    all_goals
      simp only [decide_eq_true_eq, decide_eq_false_iff_not] at *
      first
      | exact bad (by (unfold plC; simp; omega))
      | exact ⟨by omega, iu.succ hg (by (unfold plC; simp; omega))⟩
  · have hkl : k = s.length := by omega
    subst hkl
    unfold l116_0
    simp -dsimp [i3, i0]
    refine call_bool (inBR_ok _ _ _) ?_
    by_cases hp : s = []
    · subst hp
      simp -dsimp [inB, cmd, plain]
    · have hl : 0 < s.length := List.length_pos_iff.2 hp
      have h0 : s[0]? = some s[0] := List.getElem?_eq_getElem hl
      have h1 : s[s.length - 1]? = some s[s.length - 1] := List.getElem?_eq_getElem (by omega)
      have hw : IntKind.i64.wrap ((s.length : Int) - 1) = ((s.length - 1 : Nat) : Int) := wrap_pred hl hs
      have hpl : plain s = true := by simp [plain, iu.all, hp]
      have hin : inB s.length 1 100 = decide ((s.length : Int) ≤ 100) := by unfold inB; rw [Bool.eq_iff_iff]; simp; omega
      generalize s[0] = a at h0
      generalize s[s.length - 1] = b at h1
      simp -dsimp [hin, i0]
      repeat' (first
        | (refine wantT_of ?_ ?_ <;> intro q <;> simp -dsimp [q, h0, h1, hw, i0]))
      all_goals (simp_all [cmd, spc] <;> omega)
abbrev Entry := Int × Int × List UInt8 × List UInt8 × List UInt8 × Bool
def entCd : Cd Entry := .pair (.int .i64) (.pair (.int .i64) (.pair .str (.pair .str (.pair .str .bool))))
def entV (x : Entry) : List V := [.int .i64 x.1, .int .i64 x.2.1, .str x.2.2.1, .str x.2.2.2.1, .str x.2.2.2.2.1, .bool x.2.2.2.2.2]
theorem ent_cells (x : Entry) : entCd.cells x = entV x := rfl
def entOk (x : Entry) : Prop := x.2.2.1.length < 2 ^ 62 ∧ x.2.2.2.1.length < 2 ^ 62 ∧ x.2.2.2.2.1.length < 2 ^ 62
def entE (x : Entry) : Int := if !(inB x.1 1 1000000000000 && inB x.2.1 0 1000000000000) then 1 else if !cmd x.2.2.1 then 3 else if (!decide (x.2.2.2.1 = []) && !nm x.2.2.2.1) || (!decide (x.2.2.2.2.1 = []) && !nm x.2.2.2.2.1) then 5
  else if x.2.2.2.2.2 && decide (x.2.2.2.2.1 = []) then 3 else 0
theorem checkEntry_ok (x : Entry) (hx : entOk x) : OkF Try.prog 77 [.agg (entV x)] (.int .i64 (entE x), []) := by
  obtain ⟨id, at', c, g, i, n⟩ := x
  obtain ⟨hc, hg, hi⟩ := hx
  simp only at hc hg hi
  refine OkF.W0 hm h77 (of_decide_eq_true rfl) ?_
  unfold c77
  simp -dsimp [entV]
  repeat' (first
      | (refine condK_of ?_ ?_ <;> intro q <;> simp -dsimp [q])
      | (refine wantF_of ?_ ?_ <;> intro q <;> simp -dsimp [q])
      | (refine wantT_of ?_ ?_ <;> intro q <;> simp -dsimp [q])
      | (refine call_bool (inB_ok _ _ _) ?_; simp -dsimp)
      | (refine call_bool (name_ok _) ?_; simp -dsimp)
      | (refine call_bool (command_ok _ hc) ?_; simp -dsimp))
  all_goals simp_all [entE]
theorem checkEntryRef_ok (x : Entry) (hx : entOk x) : OkF Try.prog 83 [.agg (entV x)] (.int .i64 (entE x), []) := by
  obtain ⟨id, at', c, g, i, n⟩ := x
  obtain ⟨hc, hg, hi⟩ := hx
  simp only at hc hg hi
  refine OkF.W0 hm h83 (of_decide_eq_true rfl) ?_
  unfold c83
  simp -dsimp [entV]
  repeat' (first
      | (refine condK_of ?_ ?_ <;> intro q <;> simp -dsimp [q])
      | (refine wantF_of ?_ ?_ <;> intro q <;> simp -dsimp [q])
      | (refine wantT_of ?_ ?_ <;> intro q <;> simp -dsimp [q])
      | (refine call_bool (inBR_ok _ _ _) ?_; simp -dsimp)
      | (refine call_bool (moment_ok _) ?_; simp -dsimp)
      | (refine call_bool (isName_ok _ hg) ?_; simp -dsimp)
      | (refine call_bool (isName_ok _ hi) ?_; simp -dsimp)
      | (refine call_bool (isCommand_ok _ hc) ?_; simp -dsimp))
  all_goals simp_all [entE, mom_eq]
end Go.Proofs.P6
