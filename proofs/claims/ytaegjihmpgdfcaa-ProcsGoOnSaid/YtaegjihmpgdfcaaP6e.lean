/- Whether a fact is so. -/
import Derived.Test.YtaegjihmpgdfcaaP6d
set_option linter.unusedVariables false
set_option linter.unusedSimpArgs false
set_option maxRecDepth 10000
set_option maxHeartbeats 4000000
namespace Go.Proofs.P6
open Go.Ex
def spansOf (l : List Fact) (s : List UInt8) : List Span := match l.find? (fun x => decide (x.1 = s)) with
  | some x => x.2
  | none => []
theorem spans_ok (l : List Fact) (s : List UInt8) (hl : l.length < 2 ^ 62) : OkF Try.prog 158 [.ro l.length (fl factCd l), .str s] (.ro (spansOf l s).length (fl spanCd (spansOf l s)), []) := by
  refine OkF.W0 hm h158 (of_decide_eq_true rfl) ?_
  unfold c158
  simp -dsimp
  refine for_lt l.length (fun k t => t.t 7 = .ro l.length (fl factCd l) ∧ t.t 1 = .str s ∧ Not' (fun x => decide (x.1 = s)) l k) rfl hl (by simp -dsimp [Not'.zero]) (by simp -dsimp) (by simp -dsimp) (fun k t hk hI hi hn => ?_) (fun t hI hi hn => ?_)
  · obtain ⟨i7, i1, iu⟩ := hI
    have hg : l[k]? = some l[k] := List.getElem?_eq_getElem hk
    generalize l[k] = x at hg
    unfold k158_0
    simp -dsimp [i7, i1, hi, hn, fact_ia hg, fact_ld hg]
    refine condK_of ?_ ?_ <;> intro q <;> simp -dsimp [q, i7, i1, hi, hn]
    · have : spansOf l s = x.2 := by unfold spansOf; rw [find_stop iu hg q]
      simp [this]
    · exact iu.succ hg q
  · obtain ⟨i7, i1, iu⟩ := hI
    have : spansOf l s = [] := by unfold spansOf; rw [find_none iu]
    simp -dsimp [this, fl_nil]
theorem spansRef_ok (l : List Fact) (s : List UInt8) (hl : l.length < 2 ^ 62) : OkF Try.prog 160 [.ro l.length (fl factCd l), .str s] (.ro (spansOf l s).length (fl spanCd (spansOf l s)), []) := by
  have e62 : (2 : Nat) ^ 62 = 4611686018427387904 := by decide
  refine OkF.W0 hm h160 (of_decide_eq_true rfl) ?_
  unfold c160
  simp -dsimp
  refine loop_to 5 l.length (fun k t => t.t 5 = .int .i64 k ∧ t.t 0 = .ro l.length (fl factCd l) ∧ t.t 1 = .str s ∧ Not' (fun x => decide (x.1 = s)) l k) (fun k t h => h.1) (by simp -dsimp [Not'.zero]) (fun k t hk hI => ?_)
  obtain ⟨i5, i0, i1, iu⟩ := hI
  by_cases hlt : k < l.length
  · have hlt' : (k : Int) < (l.length : Int) := by omega
    have hw : IntKind.i64.wrap ((k : Int) + 1) = (k : Int) + 1 := IntWalk.i64_in _ (by omega)
    have hg : l[k]? = some l[k] := List.getElem?_eq_getElem hlt
    generalize l[k] = x at hg
    unfold l160_0
    simp -dsimp [i5, i1, i0, hlt', fact_ia hg, fact_l0 hg]
    refine condK_of ?_ ?_ <;> intro q <;> simp -dsimp [q, i5, i1, i0, hw, fact_ia hg, fact_l1 hg]
    · have : spansOf l s = x.2 := by unfold spansOf; rw [find_stop iu hg q]
      simp [this]
    · exact ⟨by omega, iu.succ hg q⟩
  · have hkl : k = l.length := by omega
    subst hkl
    have : spansOf l s = [] := by unfold spansOf; rw [find_none iu]
    unfold l160_0
    simp -dsimp [i5, i0, this, fl_nil]
def since (l : List Span) (at' : Int) : Int × Bool := match l.find? (fun s => decide (at' < s.2)) with
  | some s => (max at' s.1, true)
  | none => (0, false)
theorem since_ok (l : List Span) (n : Int) (hl : l.length < 2 ^ 62) : OkF Try.prog 141 [.ro l.length (fl spanCd l), .int .i64 n] (.tup [.int .i64 (since l n).1, .bool (since l n).2], []) := by
  refine OkF.W0 hm h141 (of_decide_eq_true rfl) ?_
  unfold c141
  simp -dsimp
  refine for_lt l.length (fun k t => t.t 8 = .ro l.length (fl spanCd l) ∧ t.t 1 = .int .i64 n ∧ Not' (fun s => decide (n < s.2)) l k) rfl hl (by simp -dsimp [Not'.zero]) (by simp -dsimp) (by simp -dsimp) (fun k t hk hI hi hn => ?_) (fun t hI hi hn => ?_)
  · obtain ⟨i8, i1, iu⟩ := hI
    have hg : l[k]? = some l[k] := List.getElem?_eq_getElem hk
    generalize l[k] = x at hg
    unfold k141_0
    simp -dsimp [i8, i1, hi, hn, span_ia hg, span_ld hg]
    refine condK_of ?_ ?_ <;> intro q <;> simp -dsimp [q, i8, i1, hi, hn]
    · have : since l n = (max n x.1, true) := by unfold since; rw [find_stop iu hg q]
      simp [this]
    · exact iu.succ hg q
  · obtain ⟨i8, i1, iu⟩ := hI
    have : since l n = (0, false) := by unfold since; rw [find_none iu]
    simp -dsimp [this]
def inSp (l : List Span) (n : Int) : Bool := l.any fun s => decide (s.1 ≤ n) && decide (n < s.2)
theorem inSpans_ok (l : List Span) (n : Int) (hl : l.length < 2 ^ 62) : OkF Try.prog 161 [.ro l.length (fl spanCd l), .int .i64 n] (.bool (inSp l n), []) := by
  have e62 : (2 : Nat) ^ 62 = 4611686018427387904 := by decide
  refine OkF.W0 hm h161 (of_decide_eq_true rfl) ?_
  unfold c161
  simp -dsimp
  refine loop_to 5 l.length (fun k t => t.t 5 = .int .i64 k ∧ t.t 0 = .ro l.length (fl spanCd l) ∧ t.t 1 = .int .i64 n ∧ Not' (fun s => decide (s.1 ≤ n) && decide (n < s.2)) l k) (fun k t h => h.1) (by simp -dsimp [Not'.zero]) (fun k t hk hI => ?_)
  obtain ⟨i5, i0, i1, iu⟩ := hI
  by_cases hlt : k < l.length
  · have hlt' : (k : Int) < (l.length : Int) := by omega
    have hw : IntKind.i64.wrap ((k : Int) + 1) = (k : Int) + 1 := IntWalk.i64_in _ (by omega)
    have hg : l[k]? = some l[k] := List.getElem?_eq_getElem hlt
    generalize l[k] = x at hg
    unfold l161_0
    simp -dsimp [i5, i1, i0, hlt', span_ia hg, span_l0 hg]
    refine wantT_of ?_ ?_ <;> intro q <;> simp -dsimp [q, i5, i1, i0, hw, span_ia hg, span_l1 hg]
    · refine condK_of ?_ ?_ <;> intro q2 <;> simp -dsimp [q2, i5, i1, i0, hw]
      · exact any_stop hg (by rw [q, q2]; rfl)
      · exact ⟨by omega, iu.succ hg (by rw [q, q2]; rfl)⟩
    · exact ⟨by omega, iu.succ hg (by rw [q]; rfl)⟩
  · have hkl : k = l.length := by omega
    subst hkl
    unfold l161_0
    simp -dsimp [i5, i0]
    exact any_none iu
def isF (l : List Fact) (s : List UInt8) (n : Int) : Bool := (since (spansOf l s) n).2 && decide ((since (spansOf l s) n).1 = n)
theorem is_ok (l : List Fact) (s : List UInt8) (n : Int) (hl : l.length < 2 ^ 62) (hs : (spansOf l s).length < 2 ^ 62) : OkF Try.prog 118 [.ro l.length (fl factCd l), .str s, .int .i64 n] (.bool (isF l s n), []) := by
  refine OkF.W0 hm h118 (of_decide_eq_true rfl) ?_
  unfold c118
  simp -dsimp
  refine call_one (spans_ok l s hl) (okRes_of (by simp)) ?_
  simp -dsimp
  refine call_one (since_ok _ _ hs) (okRes_of (by simp)) ?_
  simp -dsimp
  refine wantT_of ?_ ?_ <;> intro q <;> simp -dsimp [q, isF]
theorem isRef_ok (l : List Fact) (s : List UInt8) (n : Int) (hl : l.length < 2 ^ 62) (hs : (spansOf l s).length < 2 ^ 62) : OkF Try.prog 127 [.ro l.length (fl factCd l), .str s, .int .i64 n] (.bool (inSp (spansOf l s) n), []) := by
  refine OkF.W0 hm h127 (of_decide_eq_true rfl) ?_
  unfold c127
  simp -dsimp
  refine call_one (spansRef_ok l s hl) (okRes_of (by simp)) ?_
  simp -dsimp
  refine call_bool (inSpans_ok _ _ hs) ?_
  simp -dsimp
end Go.Proofs.P6
