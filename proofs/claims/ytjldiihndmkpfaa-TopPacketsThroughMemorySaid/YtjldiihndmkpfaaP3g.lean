/- Scrubbing: in plain lists, and as both sides do it in the caller's own codes. -/
import Derived.Test.YtjldiihndmkpfaaP3f
set_option linter.unusedVariables false
set_option linter.unusedSimpArgs false
set_option maxRecDepth 10000
set_option maxHeartbeats 4000000
namespace Go.Proofs.P3
open Go.Ex
def kindI (x : Int) : Int × Int := ((((kindN x.toNat).1 : Nat) : Int), (((kindN x.toNat).2 : Nat) : Int))
def repI (x : Int) : Int := ((repairedN x.toNat : Nat) : Int)
theorem inC_nat {x : Int} (h : inC x) : ∃ c : Nat, x = c ∧ c < 2 ^ 22 := ⟨x.toNat, by have := h.1; omega, by have := h.1; have := h.2; omega⟩
theorem kindI_ok {x : Int} (h : inC x) : OkF Try.prog 133 [.int .i64 x] (.tup [.int .i64 (kindI x).1, .int .i64 (kindI x).2], []) := by
  obtain ⟨c, rfl, hc⟩ := inC_nat h
  exact kind_ok hc
theorem kindIR_ok {x : Int} (h : inC x) : OkF Try.prog 141 [.int .i64 x] (.tup [.int .i64 (kindI x).1, .int .i64 (kindI x).2], []) := by
  obtain ⟨c, rfl, hc⟩ := inC_nat h
  exact kindR_ok hc
theorem repI_ok {x : Int} (h : inC x) : OkF Try.prog 134 [.int .i64 x] (.int .i64 (repI x), []) := by
  obtain ⟨c, rfl, hc⟩ := inC_nat h
  exact repaired_ok hc
theorem repI_in {x : Int} (h : inC x) : inC (repI x) := by
  obtain ⟨c, rfl, hc⟩ := inC_nat h
  have := repaired_lt hc
  unfold repI inC
  rw [Int.toNat_natCast]
  omega
theorem kindI_range (x : Int) : 1 ≤ (kindI x).1 ∧ (kindI x).1 ≤ 3 ∧ 0 ≤ (kindI x).2 ∧ (kindI x).2 ≤ 22 ∧ ((kindI x).1 = 2 → 1 ≤ (kindI x).2) := by
  have := kind_bounds x.toNat
  unfold kindI
  simp only
  omega
theorem repI_not {x : Int} (h : inC x) (hk : (kindI x).1 ≠ 2) : repI x = x := by
  obtain ⟨c, rfl, hc⟩ := inC_nat h
  unfold repI
  unfold kindI at hk
  simp only [Int.toNat_natCast] at hk ⊢
  rw [repairedN_not (by omega)]
/-- With one bit flipped. -/
def xorI (x n : Int) : Int := ((x.toNat ^^^ bt n.toNat : Nat) : Int)
theorem xorI_in {x n : Int} (h : inC x) (h1 : 1 ≤ n) (h2 : n ≤ 22) : inC (xorI x n) := by
  have : x.toNat ^^^ bt n.toNat < 2 ^ 22 := Nat.xor_lt_two_pow (by have := h.1; have := h.2; omega) (Nat.pow_lt_pow_right (by decide) (by omega))
  unfold xorI inC
  omega
theorem repI_two {x : Int} (h : inC x) (hk : (kindI x).1 = 2) : repI x = xorI x (kindI x).2 := by
  obtain ⟨c, rfl, hc⟩ := inC_nat h
  unfold repI xorI kindI
  unfold kindI at hk
  simp only [Int.toNat_natCast] at hk ⊢
  unfold repairedN bt
  rw [if_pos (by omega)]
theorem A_xorI {x n : Int} (h : inC x) (h1 : 1 ≤ n) (h2 : n ≤ 22) : binA .xor (.int .i64 x) (.int .i64 ((bt n.toNat : Nat) : Int)) = some (.int .i64 (xorI x n)) := by
  have := A_xor (a := x.toNat) (b := bt n.toNat) (by have := h.1; have := h.2; omega) (bt_lt (by omega))
  rwa [Int.toNat_of_nonneg h.1] at this
theorem A_btI {k : IntKind} {n : Int} (h1 : 1 ≤ n) (h2 : n ≤ 22) : binA .shl (.int .i64 1) (.int k (n - 1)) = some (.int .i64 ((bt n.toNat : Nat) : Int)) := by
  have := A_bt (k := k) (n := n.toNat) (by omega)
  rwa [show ((n.toNat - 1 : Nat) : Int) = n - 1 by omega] at this
/-- What scrubbing does in its first k steps: what it tells, and the codes. -/
def scr (frm : Nat) (moment : Int) (c : List Int) : Nat → List Scrub × List Int
  | 0 => ([], c)
  | k + 1 => if (kindI (lAt (scr frm moment c k).2 ((frm + k) % c.length))).1 = 1 then scr frm moment c k
    else ((scr frm moment c k).1 ++ [(moment, (((frm + k) % c.length : Nat) : Int), (kindI (lAt (scr frm moment c k).2 ((frm + k) % c.length))).1, (kindI (lAt (scr frm moment c k).2 ((frm + k) % c.length))).2)], (scr frm moment c k).2.set ((frm + k) % c.length) (repI (lAt (scr frm moment c k).2 ((frm + k) % c.length))))
theorem scr_len (frm : Nat) (moment : Int) (c : List Int) : ∀ k, (scr frm moment c k).2.length = c.length ∧ (scr frm moment c k).1.length ≤ k
  | 0 => by simp [scr]
  | k + 1 => by
    have := scr_len frm moment c k
    unfold scr
    split
    · omega
    · simp; omega
theorem lAt_in {c : List Int} (hc : ∀ x ∈ c, inC x) {p : Nat} (hp : p < c.length) : inC (lAt c p) := by
  unfold lAt
  rw [List.getElem?_eq_getElem hp]
  exact hc _ (List.getElem_mem hp)
theorem set_in {c : List Int} (hc : ∀ x ∈ c, inC x) {y : Int} (hy : inC y) (i : Nat) : ∀ x ∈ c.set i y, inC x := by
  intro x hx
  rcases List.mem_or_eq_of_mem_set hx with h | rfl
  · exact hc x h
  · exact hy
theorem scr_in {frm : Nat} {moment : Int} {c : List Int} (h0 : 0 < c.length) (hc : ∀ x ∈ c, inC x) : ∀ k, ∀ x ∈ (scr frm moment c k).2, inC x
  | 0 => by simpa [scr] using hc
  | k + 1 => by
    have ih := scr_in (frm := frm) (moment := moment) h0 hc k
    have hl := scr_len frm moment c k
    unfold scr
    split
    · exact ih
    · exact set_in ih (repI_in (lAt_in ih (by rw [hl.1]; exact Nat.mod_lt _ h0))) _
theorem set_same (c : List Int) (p : Nat) (hp : p < c.length) : c.set p (lAt c p) = c := by
  unfold lAt
  rw [List.getElem?_eq_getElem hp]
  simp
theorem get_lAt {c : List Int} {p : Nat} (hp : p < c.length) : c[p]? = some (lAt c p) := by
  unfold lAt
  rw [List.getElem?_eq_getElem hp]; rfl
section
variable {h : Hp} {id ver : Nat} {c : List Int} {p : Nat} {kk : IntKind} {K : V → List Nat → Prop}
theorem own_ia (hb : h id = some ⟨ver, 1, fl ic c, none⟩) (hp : p < c.length) : iaddrK h (.sl id ver 0 c.length none) (.int kk p) 1 K ⟨⟩ = K (.pt id ver p) [id] := by
  rw [iaddr_sl hb rfl hp, Nat.zero_add, Nat.mul_one]
theorem own_ld (hb : h id = some ⟨ver, 1, fl ic c, none⟩) (hp : p < c.length) : ldA h (.pt id ver p) none = some (.int .i64 (lAt c p)) := by
  rw [ld_pt', hb]
  simp only [Option.bind_some, and_self, if_true]
  have := fl_at (d := ic) (n := 1) (j := 0) rfl (by decide) (get_lAt hp)
  rw [Nat.mul_one, Nat.add_zero] at this
  exact this
theorem own_set (x : Int) : (fl ic c).set p (.int .i64 x) = fl ic (c.set p x) := fl_set1 (d := ic) (u := fun n => V.int .i64 n) (fun _ => rfl) c p x
theorem own_len : (fl ic c).length = c.length := by rw [flat_len]; simp
end
/-- What is left after scrubbing. -/
structure ScrQ (h : Hp) (nx idc ver : Nat) (out : List Scrub) (c : List Int) (v : V) (h' : Hp) (nx' : Nat) : Prop where
  acc : Acc scrCd h' nx' v out
  own : ∀ j, ownOf v = some j → nx ≤ j
  le : nx ≤ nx'
  blk : h' idc = some ⟨ver, 1, fl ic c, none⟩
  rest : ∀ j, j < nx → j ≠ idc → h' j = h j
theorem scrub_ex {h : Hp} {nx idc ver frm many : Nat} {moment : Int} {c : List Int} {sv : V} (hid : idc < nx) (hb : h idc = some ⟨ver, 1, fl ic c, none⟩) (h0 : 0 < c.length) (h2 : c.length ≤ 2000) (hc : ∀ x ∈ c, inC x) (hf : frm ≤ 10000) (hmn : many ≤ 5000) :
    SEx Try.prog 107 [.agg [.sl idc ver 0 c.length none, sv], .int .i64 frm, .int .i64 many, .int .i64 moment] h nx (ScrQ h nx idc ver (scr frm moment c many).1 (scr frm moment c many).2) := by
  refine SEx.of hm h107 (of_decide_eq_true rfl) ?_
  unfold c107
  have d0 : ¬ idc = nx := by omega
  have d0' : ¬ nx = idc := by omega
  simp -dsimp
  refine for_lt many (fun k t => t.t 4 = .pt nx 0 0 ∧ t.t 1 = .int .i64 frm ∧ t.t 3 = .int .i64 moment ∧ t.h nx = some ⟨0, 0, [.sl idc ver 0 c.length none, sv], none⟩ ∧ Acc scrCd t.h t.nx (t.t 9) (scr frm moment c k).1 ∧ (∀ j, ownOf (t.t 9) = some j → nx + 1 ≤ j) ∧ nx + 1 ≤ t.nx ∧ t.h idc = some ⟨ver, 1, fl ic (scr frm moment c k).2, none⟩ ∧ ∀ j, j < nx → j ≠ idc → t.h j = h j) rfl (by omega) ?_ (by simp -dsimp) (by simp -dsimp) (fun k t hk hI hi hn => ?_) (fun t hI hi hn => ?_)
  · refine ⟨by simp -dsimp, by simp -dsimp, by simp -dsimp, by simp -dsimp, by simp -dsimp [Acc.nil, scr], fun j hj => by simp [ownOf] at hj, by simp -dsimp, by simp -dsimp [d0, hb, scr], fun j hj hne => ?_⟩
    simp -dsimp
    intro e; omega
  · obtain ⟨i4, i1, i3, hn0, hA, hown, hnx, hid', hrest⟩ := hI
    have hsl := scr_len frm moment c k
    have hsi := scr_in (frm := frm) (moment := moment) h0 hc k
    have hS : scr frm moment c (k + 1) = if (kindI (lAt (scr frm moment c k).2 ((frm + k) % c.length))).1 = 1 then scr frm moment c k
      else ((scr frm moment c k).1 ++ [(moment, (((frm + k) % c.length : Nat) : Int), (kindI (lAt (scr frm moment c k).2 ((frm + k) % c.length))).1, (kindI (lAt (scr frm moment c k).2 ((frm + k) % c.length))).2)], (scr frm moment c k).2.set ((frm + k) % c.length) (repI (lAt (scr frm moment c k).2 ((frm + k) % c.length)))) := rfl
    have hp : (frm + k) % c.length < c.length := Nat.mod_lt _ h0
    have w1 : IntKind.i64.wrap ((frm : Int) + k) = ((frm + k : Nat) : Int) := by rw [w_i64 (by omega) (by omega)]; omega
    have w2 : ((frm + k : Nat) : Int).tmod (c.length : Int) = (((frm + k) % c.length : Nat) : Int) := by rw [Int.tmod_eq_emod_of_nonneg (by omega)]; omega
    have c0 : ¬ ((c.length : Int) = 0) := by omega
    generalize scr frm moment c k = r at *
    obtain ⟨out, cc⟩ := r
    simp only at *
    generalize hfk : frm + k = fk at *
    generalize hpp : fk % c.length = p at *
    have hpc : p < cc.length := by omega
    have hin := lAt_in hsi hpc
    have eia : ∀ K, iaddrK t.h (.sl idc ver 0 c.length none) (.int .i64 p) 1 K ⟨⟩ = K (.pt idc ver p) [idc] := fun K => by rw [← hsl.1]; exact own_ia hid' hpc
    have eld := own_ld hid' hpc
    have c1 : ¬ c = [] := fun e => by subst e; simp at h0
    unfold k107_0
    simp -dsimp [i4, i1, i3, hi, hn, hn0, w1, w2, c0, c1, eia, eld]
    refine call_pure (kindI_ok hin) (by simp) (by simp) ?_
    have hkr := kindI_range (lAt cc p)
    simp -dsimp
    by_cases q : (kindI (lAt cc p)).1 = 1
    · rw [if_pos q] at hS
      simp -dsimp [q, blockK_exit, i4, i1, i3, hi, hn, hn0, hS]
      exact ⟨hA, hown, hnx, hid', hrest⟩
    · rw [if_neg q] at hS
      simp -dsimp [q, fillS, fillA, i3]
      refine push_acc (x := (moment, (p : Int), (kindI (lAt cc p)).1, (kindI (lAt cc p)).2)) hA rfl rfl (by omega) (by omega) fun v' h' nx' g1 g2 g3 g4 => ?_
      have n1 : h' nx = some ⟨0, 0, [.sl idc ver 0 c.length none, sv], none⟩ := by rw [g3 nx (by omega) (fun e => by have := hown nx e; omega), hn0]
      have n2 : h' idc = some ⟨ver, 1, fl ic cc, none⟩ := by rw [g3 idc (by omega) (fun e => by have := hown idc e; omega), hid']
      have eia' : ∀ K, iaddrK h' (.sl idc ver 0 c.length none) (.int .i64 p) 1 K ⟨⟩ = K (.pt idc ver p) [idc] := fun K => by rw [← hsl.1]; exact own_ia n2 hpc
      have eld' := own_ld n2 hpc
      simp -dsimp [i4, n1, eia', eld']
      refine call_pure (repI_ok hin) (by simp) (by simp) ?_
      have hlen := own_len (c := cc)
      have hpc1 : p + 1 ≤ cc.length := hpc
      simp -dsimp [eia', n2, hlen, hpc1, own_set, i4, i1, i3, hi, hn, d0, d0', n1, hS]
      refine ⟨g1.keep (Nat.le_refl _) fun j hj ho => ?_, fun j hj => ?_, by omega, fun j hj hne => ?_⟩
      · have : nx + 1 ≤ j := by
          rcases g4 j ho with q | q
          · exact hown j q
          · omega
        simp only [upd]
        rw [if_neg (by omega)]
      · rcases g4 j hj with q | q
        · exact hown j q
        · omega
      · rw [if_neg hne, g3 j (by omega) (fun e => by have := hown j e; omega)]
        exact hrest j hj hne
  · obtain ⟨i4, i1, i3, hn0, hA, hown, hnx, hid', hrest⟩ := hI
    simp -dsimp
    exact ⟨hA, fun j hj => by have := hown j hj; omega, by omega, hid', hrest⟩
theorem scrubR_ex {h : Hp} {nx idc ver frm many : Nat} {moment : Int} {c : List Int} {sv : V} (hid : idc < nx) (hb : h idc = some ⟨ver, 1, fl ic c, none⟩) (h0 : 0 < c.length) (h2 : c.length ≤ 2000) (hc : ∀ x ∈ c, inC x) (hf : frm ≤ 10000) (hmn : many ≤ 5000) :
    SEx Try.prog 127 [.agg [.sl idc ver 0 c.length none, sv], .int .i64 frm, .int .i64 many, .int .i64 moment] h nx (ScrQ h nx idc ver (scr frm moment c many).1 (scr frm moment c many).2) := by
  refine SEx.of hm h127 (of_decide_eq_true rfl) ?_
  unfold c127
  have d0 : ¬ idc = nx := by omega
  have d0' : ¬ nx = idc := by omega
  simp -dsimp
  refine for_lt many (fun k t => t.t 4 = .pt nx 0 0 ∧ t.t 1 = .int .i64 frm ∧ t.t 3 = .int .i64 moment ∧ t.h nx = some ⟨0, 0, [.sl idc ver 0 c.length none, sv], none⟩ ∧ Acc scrCd t.h t.nx (t.t 9) (scr frm moment c k).1 ∧ (∀ j, ownOf (t.t 9) = some j → nx + 1 ≤ j) ∧ nx + 1 ≤ t.nx ∧ t.h idc = some ⟨ver, 1, fl ic (scr frm moment c k).2, none⟩ ∧ ∀ j, j < nx → j ≠ idc → t.h j = h j) rfl (by omega) ?_ (by simp -dsimp) (by simp -dsimp) (fun k t hk hI hi hn => ?_) (fun t hI hi hn => ?_)
  · refine ⟨by simp -dsimp, by simp -dsimp, by simp -dsimp, by simp -dsimp, by simp -dsimp [Acc.nil, scr], fun j hj => by simp [ownOf] at hj, by simp -dsimp, by simp -dsimp [d0, hb, scr], fun j hj hne => ?_⟩
    simp -dsimp
    intro e; omega
  · obtain ⟨i4, i1, i3, hn0, hA, hown, hnx, hid', hrest⟩ := hI
    have hsl := scr_len frm moment c k
    have hsi := scr_in (frm := frm) (moment := moment) h0 hc k
    have hS : scr frm moment c (k + 1) = if (kindI (lAt (scr frm moment c k).2 ((frm + k) % c.length))).1 = 1 then scr frm moment c k
      else ((scr frm moment c k).1 ++ [(moment, (((frm + k) % c.length : Nat) : Int), (kindI (lAt (scr frm moment c k).2 ((frm + k) % c.length))).1, (kindI (lAt (scr frm moment c k).2 ((frm + k) % c.length))).2)], (scr frm moment c k).2.set ((frm + k) % c.length) (repI (lAt (scr frm moment c k).2 ((frm + k) % c.length)))) := rfl
    have hp : (frm + k) % c.length < c.length := Nat.mod_lt _ h0
    have w1 : IntKind.i64.wrap ((frm : Int) + k) = ((frm + k : Nat) : Int) := by rw [w_i64 (by omega) (by omega)]; omega
    have w2 : ((frm + k : Nat) : Int).tmod (c.length : Int) = (((frm + k) % c.length : Nat) : Int) := by rw [Int.tmod_eq_emod_of_nonneg (by omega)]; omega
    have c0 : ¬ ((c.length : Int) = 0) := by omega
    generalize scr frm moment c k = r at *
    obtain ⟨out, cc⟩ := r
    simp only at *
    generalize hfk : frm + k = fk at *
    generalize hpp : fk % c.length = p at *
    have hpc : p < cc.length := by omega
    have hin := lAt_in hsi hpc
    have eia : ∀ K, iaddrK t.h (.sl idc ver 0 c.length none) (.int .i64 p) 1 K ⟨⟩ = K (.pt idc ver p) [idc] := fun K => by rw [← hsl.1]; exact own_ia hid' hpc
    have eld := own_ld hid' hpc
    have c1 : ¬ c = [] := fun e => by subst e; simp at h0
    unfold k127_0
    simp -dsimp [i4, i1, i3, hi, hn, hn0, w1, w2, c0, c1, eia, eld]
    refine call_pure (kindIR_ok hin) (by simp) (by simp) ?_
    have hkr := kindI_range (lAt cc p)
    simp -dsimp
    by_cases q : (kindI (lAt cc p)).1 = 1
    · rw [if_pos q] at hS
      simp -dsimp [q, blockK_exit, i4, i1, i3, hi, hn, hn0, hS]
      exact ⟨hA, hown, hnx, hid', hrest⟩
    · rw [if_neg q] at hS
      by_cases q2 : (kindI (lAt cc p)).1 = 2
      · have hb1 : 1 ≤ (kindI (lAt cc p)).2 := hkr.2.2.2.2 q2
        have hb2 : (kindI (lAt cc p)).2 ≤ 22 := hkr.2.2.2.1
        have hr := repI_two hin q2
        have w3 : IntKind.i64.wrap ((kindI (lAt cc p)).2 - 1) = (kindI (lAt cc p)).2 - 1 := w_i64 (by omega) (by omega)
        have hx := A_xorI hin hb1 hb2
        have hs := A_btI (k := .i64) hb1 hb2
        have hlen := own_len (c := cc)
        have hpc1 : p + 1 ≤ cc.length := hpc
        rw [← hr] at hx
        generalize repI (lAt cc p) = y at *
        simp -dsimp [q, q2, i4, hn0, eia, eld, -i_shl, -i_xor, hs, hx, w3, hid', hlen, hpc1, own_set, fillS, fillA, i3]
        have hA' : Acc scrCd (upd t.h idc (some ⟨ver, 1, fl ic (cc.set p y), none⟩)) t.nx (t.t 9) out := hA.keep (Nat.le_refl _) fun j hj ho => by
          have := hown j ho
          simp only [upd]
          rw [if_neg (by omega)]
        refine push_acc (x := (moment, (p : Int), 2, (kindI (lAt cc p)).2)) hA' rfl rfl (by omega) (by omega) fun v' h' nx' g1 g2 g3 g4 => ?_
        have n1 : h' nx = some ⟨0, 0, [.sl idc ver 0 c.length none, sv], none⟩ := by rw [g3 nx (by omega) (fun e => by have := hown nx e; omega)]; simp only [upd]; rw [if_neg d0', hn0]
        have n2 : h' idc = some ⟨ver, 1, fl ic (cc.set p y), none⟩ := by rw [g3 idc (by omega) (fun e => by have := hown idc e; omega)]; simp [upd]
        rw [q2] at hS
        simp -dsimp [i4, i1, i3, hi, hn, n1, n2, hS]
        refine ⟨g1, fun j hj => ?_, by omega, fun j hj hne => ?_⟩
        · rcases g4 j hj with q | q
          · exact hown j q
          · omega
        · rw [g3 j (by omega) (fun e => by have := hown j e; omega)]
          simp only [upd]
          rw [if_neg hne]
          exact hrest j hj hne
      · have hr := repI_not hin q2
        rw [hr, set_same cc p hpc] at hS
        simp -dsimp [q, q2, fillS, fillA, i3]
        refine push_acc (x := (moment, (p : Int), (kindI (lAt cc p)).1, (kindI (lAt cc p)).2)) hA rfl rfl (by omega) (by omega) fun v' h' nx' g1 g2 g3 g4 => ?_
        have n1 : h' nx = some ⟨0, 0, [.sl idc ver 0 c.length none, sv], none⟩ := by rw [g3 nx (by omega) (fun e => by have := hown nx e; omega), hn0]
        have n2 : h' idc = some ⟨ver, 1, fl ic cc, none⟩ := by rw [g3 idc (by omega) (fun e => by have := hown idc e; omega), hid']
        simp -dsimp [i4, i1, i3, hi, hn, n1, n2, hS]
        refine ⟨g1, fun j hj => ?_, by omega, fun j hj hne => ?_⟩
        · rcases g4 j hj with q | q
          · exact hown j q
          · omega
        · rw [g3 j (by omega) (fun e => by have := hown j e; omega)]
          exact hrest j hj hne
  · obtain ⟨i4, i1, i3, hn0, hA, hown, hnx, hid', hrest⟩ := hI
    simp -dsimp
    exact ⟨hA, fun j hj => by have := hown j hj; omega, by omega, hid', hrest⟩
end Go.Proofs.P3
