/- Put of the program; Put and Drop of the program; Next of both sides; entries compared; Right schedules in plain Lean: what is put is right, and can be dropped again; The laws of entries put and dropped. -/
import Derived.Test.YtaegjihmpgdfcaaB4
import Derived.Test.YtaegjihmpgdfcaaExX
import Derived.Test.YtaegjihmpgdfcaaB3
import Derived.Test.YtaegjihmpgdfcaaB2
section
set_option linter.unusedVariables false
set_option linter.unusedSimpArgs false
set_option maxRecDepth 10000
set_option maxHeartbeats 8000000
namespace Go.Proofs.P6
open Go.Ex
theorem entClone (l : List Entry) (hl : l.length ≤ 5000) (hne : l ≠ []) : OkF Try.prog 132 [.ro l.length (fl entCd l)] (.sl 0 0 0 l.length none, [⟨0, 6, fl entCd l, none⟩]) :=
  have e62 := Go.Ex.e62
  have e47 := Go.Ex.e47
  clone_ok (d := entCd) (bytes := 72) hm h132 rfl l (by omega) (by omega) hne
theorem put_ok (l : List Entry) (x : Entry) (he : entsE l = 0) : OkF Try.prog 78 [.ro l.length (fl entCd l), .agg (entV x)] (.tup [.ro (putE l x).1.length (fl entCd (putE l x).1), .int .i64 (putE l x).2], []) := by
  have e62 := Go.Ex.e62
  have hl := ents_le he
  have hil := ins_len l x
  refine OkF.W0 hm h78 (of_decide_eq_true rfl) ?_
  unfold c78
  simp -dsimp [entV]
  generalize hh : upd none0 0 _ = h0
  have hx0 : h0 0 = some ⟨0, 0, entV x, none⟩ := by rw [← hh]; simp [entV]
  clear hh
  have sl : (entV x).length = 6 := rfl
  refine call_int (index_ok l x.1 (by omega)) ?_
  simp -dsimp
  refine condK_of ?_ ?_ <;> intro q <;> simp -dsimp [q, hx0, sl]
  · have : putE l x = ([], 7) := by unfold putE; rw [if_pos (by simpa using q)]
    simp [this, fl_nil]
  have q' : ¬ 0 ≤ idI l x.1 := by simpa using q
  have hE : putE l x = if 1000 < (ins l x).length ∨ 50 < grpN (ins l x) (ins l x).length then ([], 2) else (ins l x, 0) := by unfold putE; rw [if_neg q']
  refine shr_ex (bs_ok l x (insK l x l.length) (by omega) (insK_le _ _ _) (insK_half he (by omega))) ?_
  rintro v h' nx' ⟨⟨b, rfl⟩, q1, q2⟩
  have hx1 : h' 0 = some ⟨0, 0, entV x, none⟩ := by rw [q2 0 (by omega), hx0]
  have n0 : ¬ 0 = nx' := by omega
  have n1 : ¬ nx' = nx' + 1 := by omega
  simp -dsimp
  by_cases hne : l = []
  · subst hne
    have hi : ins [] x = [x] := rfl
    have hk0 : insK [] x ([] : List Entry).length = 0 := rfl
    have hput : putL [V.int IntKind.i64 0, V.int IntKind.i64 0, V.str [], V.str [], V.str [], V.bool false] 0 (entV x) = entV x := rfl
    have tk6 : List.take 6 (entV x) = entV x := rfl
    rw [hi] at hE
    have hce : OkF Try.prog 132 [.ro ([] : List Entry).length (fl entCd [])] (.em, []) := clone_empty hm h132
    refine call_own hce (okRes_of (by simp)) ?_
    have hdj : ∀ b, disj (some []) b = true := fun b => by cases b <;> rfl
    simp -dsimp [shift, addB, hx1, n0, sl, fillA, callRd, callWr, tk6, hput, rdOf, hdj]
    have hsx := insert_em x (h := upd h' nx' (some ⟨0, 6, entV x, none⟩)) (nx := nx' + 1) (vid := nx') (vver := 0) (by simp [upd])
    refine shr_ex (Q := fun v h2 nx2 => v = _ ∧ h2 = _ ∧ nx2 = _) ⟨_, _, _, ⟨rfl, rfl, rfl⟩, hsx⟩ ?_
    rintro v h2 nx2 ⟨rfl, rfl, rfl⟩
    have ha : ∀ h : Hp, Acc entCd (upd h (nx' + 1) (some ⟨0, 6, entV x, none⟩)) (nx' + 2) (.sl (nx' + 1) 0 0 1 none) [x] := fun h => Acc.mk (l := [x]) (by omega) (by simp [upd]; exact ⟨rfl, by simp [fl_cons, fl_nil, ent_cells]⟩)
    have e6 : ∀ h : Hp, toRO (upd h (nx' + 1) (some ⟨0, 6, entV x, none⟩)) 8 (.sl (nx' + 1) 0 0 1 none) = some (.ro 1 (fl entCd [x])) := fun h => (ha h).ro (n := 7)
    have e7 : ∀ h : Hp, exp1 (upd h (nx' + 1) (some ⟨0, 6, entV x, none⟩)) [] (.sl (nx' + 1) 0 0 1 none) = some (.ro 1 (fl entCd [x])) := fun h => (ha h).ex1
    have hg := manyGroups_ok [x] (by simp only [List.length_singleton]; omega)
    rw [List.length_singleton] at hg
    simp -dsimp [e6]
    refine call_bool hg ?_
    by_cases g : 50 < grpN [x] 1
    · simp -dsimp [g]
      rw [hE, if_pos (.inr g)]
      simp [fl_nil]
    · simp -dsimp [g]
      rw [hE, if_neg (by
        rintro (h | h)
        · simp at h
        · exact g h)]
      simp [e7]
  refine call_own (entClone l (by omega) hne) (okRes_of (by simp)) ?_
  have hdj : disj (some (newIds nx' 1)) (some [0]) = true := by simp [disj, newIds, n0]; omega
  have hins : l.take (insK l x l.length) ++ [x] ++ l.drop (insK l x l.length) = ins l x := rfl
  have tk6 : List.take 6 (entV x) = entV x := rfl
  have hdj2 : disj (some (newIds nx' 1)) (some [nx' + 1]) = true := by simp [disj, newIds]
  have hput : putL [V.int IntKind.i64 0, V.int IntKind.i64 0, V.str [], V.str [], V.str [], V.bool false] 0 (entV x) = entV x := rfl
  have n2 : ¬ nx' + 1 = nx' := by omega
  simp -dsimp [shift, addB, hx1, n0, sl, fillA, callRd, callWr, hdj, tk6, hdj2, hput]
  have hsx := insert_ok l x (insK l x l.length) (insK_le _ _ _) (List.length_pos_iff.2 hne) (by omega) (h := upd (upd h' nx' (some ⟨0, 6, fl entCd l, none⟩)) (nx' + 1) (some ⟨0, 6, entV x, none⟩)) (nx := nx' + 1 + 1) (id := nx') (ver := 0) (vid := nx' + 1) (vver := 0) (by simp [upd]) (by simp [upd]) (by omega) (by omega)
  rw [hins] at hsx
  refine shr_ex (Q := fun v h2 nx2 => v = _ ∧ h2 = _ ∧ nx2 = _) ⟨_, _, _, ⟨rfl, rfl, rfl⟩, hsx⟩ ?_
  rintro v h2 nx2 ⟨rfl, rfl, rfl⟩
  rw [← hil]
  generalize ins l x = r at *
  have e6 : ∀ h : Hp, toRO (upd h nx' (some ⟨1, 6, fl entCd r, none⟩)) 8 (.sl nx' 1 0 r.length none) = some (.ro r.length (fl entCd r)) := fun h =>
    Acc.ro (d := entCd) (h := upd h nx' (some ⟨1, 6, fl entCd r, none⟩)) (nx := nx' + 1) (v := .sl nx' 1 0 r.length none) (l := r) (Acc.mk (by omega) (by simp [upd]; rfl)) (n := 7)
  have e7 : ∀ h : Hp, exp1 (upd h nx' (some ⟨1, 6, fl entCd r, none⟩)) [] (.sl nx' 1 0 r.length none) = some (.ro r.length (fl entCd r)) := fun h =>
    Acc.ex1 (d := entCd) (h := upd h nx' (some ⟨1, 6, fl entCd r, none⟩)) (nx := nx' + 1) (v := .sl nx' 1 0 r.length none) (l := r) (Acc.mk (by omega) (by simp [upd]; rfl))
  by_cases big : 1000 < r.length
  · have big' : (1000 : Int) < (r.length : Int) := by omega
    simp -dsimp [big']
    rw [hE, if_pos (.inl big)]
    simp [fl_nil]
  · have big' : ¬ (1000 : Int) < (r.length : Int) := by omega
    simp -dsimp [big', e6]
    refine call_bool (manyGroups_ok r (by omega)) ?_
    by_cases g : 50 < grpN r r.length
    · simp -dsimp [g]
      rw [hE, if_pos (.inr g)]
      simp [fl_nil]
    · simp -dsimp [g]
      rw [hE, if_neg (by rintro (h | h) <;> contradiction)]
      simp [e7]
end Go.Proofs.P6
end
section
set_option linter.unusedVariables false
set_option linter.unusedSimpArgs false
set_option maxRecDepth 10000
set_option maxHeartbeats 8000000
namespace Go.Proofs.P6
open Go.Ex
theorem drop_ok (l : List Entry) (id : Int) (hl : l.length ≤ 1000) : OkF Try.prog 79 [.ro l.length (fl entCd l), .int .i64 id] (.tup (if idI l id < 0 then [.ro 0 [], .int .i64 9] else [.ro (wo l (idI l id).toNat).length (fl entCd (wo l (idI l id).toNat)), .int .i64 0]), []) := by
  have e62 := Go.Ex.e62
  refine OkF.W0 hm h79 (of_decide_eq_true rfl) ?_
  unfold c79
  simp -dsimp
  refine call_int (index_ok l id (by omega)) ?_
  simp -dsimp
  refine condK_of ?_ ?_ <;> intro q <;> simp -dsimp [q]
  · have q' : idI l id < 0 := by simpa using q
    simp [q']
  have q' : ¬ idI l id < 0 := by simpa using q
  have hlt := idI_lt l id
  obtain ⟨i, hi⟩ := Int.eq_ofNat_of_zero_le (show 0 ≤ idI l id by omega)
  rw [if_neg q', hi, Int.toNat_natCast]
  have hne : l ≠ [] := fun e => by rw [e] at hlt q'; simp at hlt; omega
  have hw : IntKind.i64.wrap ((i : Int) + 1) = (i : Int) + 1 := IntWalk.i64_in _ (by omega)
  refine call_own (entClone l (by omega) hne) (okRes_of (by simp)) ?_
  simp -dsimp [shift, addB, callRd, callWr, hi, hw]
  have hsx := delete_ok l i (by omega) (by omega) (h := upd (none0) 0 (some ⟨0, 6, fl entCd l, none⟩)) (nx := 1) (id := 0) (ver := 0) (by simp [upd]) (by omega)
  refine shr_ex (Q := fun v h2 nx2 => v = _ ∧ h2 = _ ∧ nx2 = _) ⟨_, _, _, ⟨rfl, rfl, rfl⟩, hsx⟩ ?_
  rintro v h2 nx2 ⟨rfl, rfl, rfl⟩
  generalize wo l i = r at *
  have ha : ∀ h : Hp, Acc entCd (upd h 0 (some ⟨1, 6, fl entCd r, none⟩)) 1 (.sl 0 1 0 r.length none) r := fun h => Acc.mk (by omega) (by simp [upd]; rfl)
  simp -dsimp
  simp [(ha _).ex1]
/-- The first error of some. -/
def fsE (l : List Int) (k : Nat) : Int := (l[k]?).getD 0
theorem firstN_ok (l : List Int) (hl : l.length < 2 ^ 62) : OkF Try.prog 67 [.ro l.length (fl (Cd.int .i64) l)] (.int .i64 (fe (fsE l) l.length), []) := by
  refine OkF.W0 hm h67 (of_decide_eq_true rfl) ?_
  unfold c67
  simp -dsimp
  refine for_lt l.length (fun k t => t.t 5 = .ro l.length (fl (Cd.int .i64) l) ∧ fe (fsE l) k = 0) rfl hl (by simp -dsimp [fe]) (by simp -dsimp) (by simp -dsimp) (fun k t hk hI hi hn => ?_) (fun t hI hi hn => ?_)
  · obtain ⟨i5, iu⟩ := hI
    have hg : l[k]? = some l[k] := List.getElem?_eq_getElem hk
    generalize l[k] = a at hg
    have hE : fsE l k = a := by simp [fsE, hg]
    have e1 : ∀ K, iaddrK t.h (.ro l.length (fl (Cd.int .i64) l)) (.int .i64 k) 1 K ⟨⟩ = K (.rp (fl (Cd.int .i64) l) k) [] := fun K => by
      have := iaddr_fl (d := Cd.int .i64) (n := 1) (kk := .i64) (h := t.h) (K := K) rfl (by decide) hg
      rwa [Nat.mul_one] at this
    have e2 : ∀ h, ldA h (.rp (fl (Cd.int .i64) l) k) none = some (.int .i64 a) := fun h => by
      have := ld_fl0 (d := Cd.int .i64) (n := 1) (h := h) rfl (by decide) hg
      rw [Nat.mul_one] at this
      exact this
    unfold k67_0
    simp -dsimp [i5, hi, hn, e1, e2]
    refine condK_of ?_ ?_ <;> intro q <;> simp -dsimp [q, i5, hi, hn]
    · rw [fe_stop iu (by rw [hE]; simpa using q) hk, hE]
    · exact fe_step iu (by rw [hE]; simpa using q)
  · obtain ⟨i5, iu⟩ := hI
    simp -dsimp [iu]
theorem first2_ok (a b : Int) : OkF Try.prog 67 [.ro 2 [.int .i64 a, .int .i64 b]] (.int .i64 (if a ≠ 0 then a else b), []) := by
  have h := firstN_ok [a, b] (by simp)
  have e : fe (fsE [a, b]) 2 = if a ≠ 0 then a else b := by
    simp [fe, fsE]
  have e' : fe (fsE [a, b]) [a, b].length = if a ≠ 0 then a else b := e
  rw [e'] at h
  exact h
theorem Put_ok (l : List Entry) (x : Entry) (hok : ∀ x ∈ l, entOk x) (hx : entOk x) : OkF Try.prog 29 [.ro l.length (fl entCd l), .agg (entV x)] (.tup [.ro (PutE l x).1.length (fl entCd (PutE l x).1), .int .i64 (PutE l x).2], []) := by
  have hc := checkEntry_ok x hx
  have hp := fun h => put_ok l x h
  refine OkF.W0 hm h29 (of_decide_eq_true rfl) ?_
  unfold c29
  simp -dsimp [entV]
  generalize hh : upd none0 0 _ = h0
  have hx0 : h0 0 = some ⟨0, 0, entV x, none⟩ := by rw [← hh]; simp [entV]
  clear hh
  have sl : (entV x).length = 6 := rfl
  have tk6 : List.take 6 (entV x) = entV x := rfl
  refine call_int (CheckEntries_ok l hok) ?_
  simp -dsimp [hx0, sl, tk6]
  refine call_int hc ?_
  have e5 : ∀ (h : Hp) (a b : Int), toRO (upd h 1 (some ⟨0, 1, [.int .i64 a, .int .i64 b], none⟩)) 8 (.sl 1 0 0 2 (some 2)) = some (.ro 2 [.int .i64 a, .int .i64 b]) := fun _ _ _ => rfl
  simp -dsimp [fillA, e5]
  refine call_int (first2_ok _ _) ?_
  simp -dsimp
  by_cases q1 : entsE l = 0
  · by_cases q2 : entE x = 0
    · have hE : PutE l x = putE l x := by unfold PutE; rw [if_neg (by simp [q1]), if_neg (by simp [q2])]
      rw [hE]
      simp -dsimp [q1, q2, hx0, tk6, sl]
      refine call_one (hp q1) (okRes_of (by simp [noRef, V.pure, show V.pureL (entV x) = true from rfl])) ?_
      simp -dsimp
    · have hE : PutE l x = ([], entE x) := by unfold PutE; rw [if_neg (by simp [q1]), if_pos q2]
      simp -dsimp [q1, q2, hE, fl_nil]
  · have hE : PutE l x = ([], entsE l) := by unfold PutE; rw [if_pos q1]
    simp -dsimp [q1, hE, fl_nil]
theorem Drop_ok (l : List Entry) (id : Int) (hok : ∀ x ∈ l, entOk x) : OkF Try.prog 30 [.ro l.length (fl entCd l), .int .i64 id] (.tup [.ro (DropE l id).1.length (fl entCd (DropE l id).1), .int .i64 (DropE l id).2], []) := by
  refine OkF.W0 hm h30 (of_decide_eq_true rfl) ?_
  unfold c30
  simp -dsimp
  refine call_int (CheckEntries_ok l hok) ?_
  simp -dsimp
  by_cases q1 : entsE l = 0
  · have hd := drop_ok l id (ents_le q1)
    by_cases q2 : idI l id < 0
    · have hE : DropE l id = ([], 9) := by unfold DropE; rw [if_neg (by simp [q1]), if_pos q2]
      rw [if_pos q2] at hd
      simp -dsimp [q1, hE, fl_nil]
      refine call_one hd (okRes_of (by simp)) ?_
      simp -dsimp [hE, fl_nil]
    · have hE : DropE l id = (wo l (idI l id).toNat, 0) := by unfold DropE; rw [if_neg (by simp [q1]), if_neg q2]
      rw [if_neg q2] at hd
      rw [hE]
      simp -dsimp [q1]
      refine call_one hd (okRes_of (by simp)) ?_
      simp -dsimp
  · have hE : DropE l id = ([], entsE l) := by unfold DropE; rw [if_pos q1]
    simp -dsimp [q1, hE, fl_nil]
end Go.Proofs.P6
end
section
set_option linter.unusedVariables false
set_option linter.unusedSimpArgs false
set_option maxRecDepth 10000
set_option maxHeartbeats 8000000
namespace Go.Proofs.P6
open Go.Ex
instance entDec : DecidableEq Entry := fun x y => (inferInstance : Decidable (x = y))
theorem ent_seq (n : Bool) (x y : Entry) : seqA n [0, 0, 2, 2, 2, 1] (.agg (entV x)) (.agg (entV y)) = some (.bool (if n then !decide (x = y) else decide (x = y))) := by
  obtain ⟨a1, a2, a3, a4, a5, a6⟩ := x
  obtain ⟨b1, b2, b3, b4, b5, b6⟩ := y
  cases n <;> simp [entV, seqA, tagOf, eqCells] <;> rw [Bool.eq_iff_iff] <;> simp
theorem equalEnt_ok (l m : List Entry) (hl : l.length < 2 ^ 62) : OkF Try.prog 33 [.ro l.length (fl entCd l), .ro m.length (fl entCd m)] (.bool (decide (l = m)), []) :=
  equal_ok (d := entCd) (esz := 6) hm h33 rfl (by decide) (fun a b => ent_seq true a b) l m hl
theorem indexEnt_ok (l : List Entry) (x : Entry) (hl : l.length < 2 ^ 62) : OkF Try.prog 82 [.ro l.length (fl entCd l), .agg (entV x)] (.int .i64 (ixI (fun y => decide (x = y)) l), []) := by
  refine OkF.W0 hm h82 (of_decide_eq_true rfl) ?_
  unfold c82
  simp -dsimp [entV]
  generalize hh : upd none0 0 _ = h0
  have hx0 : h0 0 = some ⟨0, 0, entV x, none⟩ := by rw [← hh]; simp [entV]
  clear hh
  have sl : (entV x).length = 6 := rfl
  have tk6 : List.take 6 (entV x) = entV x := rfl
  refine for_lt l.length (fun k t => t.t 0 = .ro l.length (fl entCd l) ∧ t.t 3 = .pt 0 0 0 ∧ t.h = h0 ∧ Not' (fun y => decide (x = y)) l k) rfl hl (by simp -dsimp [Not'.zero]) (by simp -dsimp) (by simp -dsimp) (fun k t hk hI hi hn => ?_) (fun t hI hi hn => ?_)
  · obtain ⟨i0, i3, ih, iu⟩ := hI
    have hg : l[k]? = some l[k] := List.getElem?_eq_getElem hk
    generalize l[k] = y at hg
    have hseq : seqA false [0, 0, 2, 2, 2, 1] (.agg (entV x)) (.agg (entV y)) = some (.bool (decide (x = y))) := ent_seq false x y
    unfold k82_0
    cases q : decide (x = y) with
    | true =>
      rw [q] at hseq
      simp -dsimp [i0, i3, ih, hi, hn, hx0, sl, tk6, ent_ia hg, ent_ld hg, hseq]
      rw [ixI_stop iu hg q]
    | false =>
      rw [q] at hseq
      simp -dsimp [i0, i3, ih, hi, hn, hx0, sl, tk6, ent_ia hg, ent_ld hg, hseq]
      exact iu.succ hg q
  · obtain ⟨i0, i3, ih, iu⟩ := hI
    simp -dsimp [ixI_none iu]
theorem containsEnt_ok (l : List Entry) (x : Entry) (hl : l.length < 2 ^ 62) : OkF Try.prog 32 [.ro l.length (fl entCd l), .agg (entV x)] (.bool (decide (x ∈ l)), []) := by
  have hi := indexEnt_ok l x hl
  refine OkF.W0 hm h32 (of_decide_eq_true rfl) ?_
  unfold c32
  simp -dsimp [entV]
  generalize hh : upd none0 0 _ = h0
  have hx0 : h0 0 = some ⟨0, 0, entV x, none⟩ := by rw [← hh]; simp [entV]
  clear hh
  have sl : (entV x).length = 6 := rfl
  have tk6 : List.take 6 (entV x) = entV x := rfl
  refine call_int hi ?_
  simp -dsimp
  have hn := ixI_neg (p := fun y => decide (x = y)) (l := l)
  rw [List.any_eq_false] at hn
  constructor
  · intro h
    apply Classical.byContradiction
    intro hc
    have := hn.2 fun y hy => by
      simp only [decide_eq_true_eq]
      rintro rfl
      exact hc hy
    omega
  · intro h
    apply Classical.byContradiction
    intro hc
    exact hn.1 (by omega) x h (by simp)
def z6E : Entry := (0, 0, [], [], [], false)
def nxtE (l : List Entry) (at' : Int) : Entry × Bool × Int := if entsE l ≠ 0 then (z6E, false, entsE l) else if inB at' 0 1000000000000 = false then (z6E, false, 1) else match l.find? fun x => decide (at' ≤ x.2.1) with
  | some x => (x, true, 0)
  | none => (z6E, false, 0)
theorem find_ix {α : Type} (p : α → Bool) (l : List α) : (ixI p l = -1 ∧ l.find? p = none) ∨ ∃ (k : Nat) (a : α), ixI p l = k ∧ l[k]? = some a ∧ l.find? p = some a := by
  rcases ixI_cases p l with ⟨h1, h2⟩ | ⟨k, a, h1, h2, h3, h4⟩
  · exact .inl ⟨h1, List.find?_eq_none.2 fun a ha => by rw [h2 a ha]; simp⟩
  · refine .inr ⟨k, a, h1, h2, ?_⟩
    obtain ⟨hk, hka⟩ := List.getElem?_eq_some_iff.1 h2
    rw [List.find?_eq_some_iff_getElem]
    refine ⟨h3, k, hk, hka, fun j hj => ?_⟩
    have := h4 j l[j] hj (List.getElem?_eq_getElem (by omega))
    simpa using this
theorem range2_ok (n lo hi : Int) : OkF Try.prog 69 [.int .i64 n, .int .i64 lo, .int .i64 hi] (.int .i64 (if inB n lo hi = false then 1 else 0), []) := by
  refine OkF.W0 hm h69 (of_decide_eq_true rfl) ?_
  unfold c69
  simp -dsimp
  refine call_bool (inB_ok _ _ _) ?_
  simp -dsimp
  refine condK_of ?_ ?_ <;> intro q <;> simp -dsimp [q] <;> simp_all
theorem isAt_ok (at' : Int) (x : Entry) {h : Hp} {nx b : Nat} (hb : b < nx) (hh : h b = some ⟨0, 0, [.int .i64 at'], none⟩) : SEx Try.prog 90 [.agg (entCd.cells x), .pt b 0 0] h nx (Quiet (.bool (decide (at' ≤ x.2.1))) h nx) := by
  have hne : b ≠ nx := by omega
  have e : entCd.cells x = entV x := rfl
  rw [e]
  refine SEx.of hm h90 (of_decide_eq_true rfl) ?_
  unfold c90
  simp -dsimp [hne, hh, entV]
  refine ⟨rfl, by simp, fun j hj => ?_⟩
  have : j ≠ nx := by omega
  simp [this]
theorem Next_ok (l : List Entry) (at' : Int) (hok : ∀ x ∈ l, entOk x) : OkF Try.prog 37 [.ro l.length (fl entCd l), .int .i64 at'] (.tup [.agg (entV (nxtE l at').1), .bool (nxtE l at').2.1, .int .i64 (nxtE l at').2.2], []) := by
  have e62 := Go.Ex.e62
  refine OkF.G0 hm h37 (of_decide_eq_true rfl) ?_
  unfold c37
  have e5 : ∀ (h : Hp) (a b : Int), toRO (upd h 2 (some ⟨0, 1, [.int .i64 a, .int .i64 b], none⟩)) 8 (.sl 2 0 0 2 (some 2)) = some (.ro 2 [.int .i64 a, .int .i64 b]) := fun _ _ _ => rfl
  simp -dsimp
  refine call_int (CheckEntries_ok l hok) ?_
  simp -dsimp
  refine call_int (range2_ok _ _ _) ?_
  simp -dsimp [fillA, e5]
  refine call_int (first2_ok _ _) ?_
  simp -dsimp
  by_cases q1 : entsE l = 0
  rotate_left
  · have hE : nxtE l at' = (z6E, false, entsE l) := by unfold nxtE; rw [if_pos q1]
    simp -dsimp [q1, hE, fillS, z6E, entV]
  by_cases q2 : inB at' 0 1000000000000 = false
  · have hE : nxtE l at' = (z6E, false, 1) := by unfold nxtE; rw [if_neg (by simp [q1]), if_pos q2]
    simp -dsimp [q1, q2, hE, fillS, z6E, entV]
  have hl := ents_le q1
  have hE : nxtE l at' = match l.find? fun x => decide (at' ≤ x.2.1) with
    | some x => (x, true, 0)
    | none => (z6E, false, 0) := by unfold nxtE; rw [if_neg (by simp [q1]), if_neg q2]
  simp -dsimp [q1, q2]
  refine shr_ex (indexFunc_ok (d := entCd) hm h89 rfl (by decide) l (by omega) (fun x => decide (at' ≤ x.2.1)) (by kernel_rfl) fun a ha h' nx' h1 h2 => isAt_ok at' a (by omega) (by rw [h2 0 (by omega)]; simp)) ?_
  rintro v h' nx' ⟨rfl, q3, q4⟩
  have h1 : h' 1 = some ⟨0, 0, [.int .i64 0, .int .i64 0, .str [], .str [], .str [], .bool false], none⟩ := by rw [q4 1 (by omega)]; simp
  rcases find_ix (fun x : Entry => decide (at' ≤ x.2.1)) l with ⟨f1, f2⟩ | ⟨k, a, f1, f2, f3⟩
  · rw [f2] at hE
    simp only at hE
    simp -dsimp [f1, hE, fillS, z6E, entV, h1]
  · rw [f3] at hE
    simp only at hE
    have sl : (entV a).length = 6 := rfl
    have hk0 : ¬ (k : Int) < 0 := by omega
    have tk6 : List.take 6 (entV a) = entV a := rfl
    have hput : putL [V.int IntKind.i64 0, V.int IntKind.i64 0, V.str [], V.str [], V.str [], V.bool false] 0 (entV a) = entV a := rfl
    simp -dsimp [f1, hE, h1, ent_ia f2, ent_ld f2, sl, hk0, hput, tk6]
    have hmm : ∀ g, List.mapM (expC g [] 8) (entV a) = some (entV a) := fun g => rfl
    rw [hmm]
    rfl
theorem NextRef_ok (l : List Entry) (at' : Int) (hok : ∀ x ∈ l, entOk x) : OkF Try.prog 38 [.ro l.length (fl entCd l), .int .i64 at'] (.tup [.agg (entV (nxtE l at').1), .bool (nxtE l at').2.1, .int .i64 (nxtE l at').2.2], []) := by
  have e62 := Go.Ex.e62
  refine OkF.G0 hm h38 (of_decide_eq_true rfl) ?_
  unfold c38
  simp -dsimp
  refine call_int (CheckEntriesRef_ok l hok) ?_
  simp -dsimp
  by_cases q1 : entsE l = 0
  rotate_left
  · have hE : nxtE l at' = (z6E, false, entsE l) := by unfold nxtE; rw [if_pos q1]
    simp -dsimp [q1, hE, fillS, z6E, entV]
  simp -dsimp [q1]
  refine call_bool (moment_ok at') ?_
  rw [mom_eq]
  by_cases q2 : inB at' 0 1000000000000 = false
  · have hE : nxtE l at' = (z6E, false, 1) := by unfold nxtE; rw [if_neg (by simp [q1]), if_pos q2]
    simp -dsimp [q2, hE, fillS, z6E, entV]
  have q2' : inB at' 0 1000000000000 = true := by simpa using q2
  have hl := ents_le q1
  have hE : nxtE l at' = match l.find? fun x => decide (at' ≤ x.2.1) with
    | some x => (x, true, 0)
    | none => (z6E, false, 0) := by unfold nxtE; rw [if_neg (by simp [q1]), if_neg q2]
  have hfx := find_ix (fun x : Entry => decide (at' ≤ x.2.1)) l
  simp -dsimp [q2']
  generalize hh : upd none0 0 _ = h0
  have h1 : h0 0 = some ⟨0, 0, [.int .i64 0, .int .i64 0, .str [], .str [], .str [], .bool false], none⟩ := by rw [← hh]; simp
  clear hh
  refine loop_to 8 l.length (fun k t => t.t 8 = .int .i64 k ∧ t.t 0 = .ro l.length (fl entCd l) ∧ t.t 1 = .int .i64 at' ∧ t.t 4 = .pt 0 0 0 ∧ t.h = h0 ∧ Not' (fun x : Entry => decide (at' ≤ x.2.1)) l k) (fun k t h => h.1) (by simp -dsimp [Not'.zero]) (fun k t hk hI => ?_)
  obtain ⟨i8, i0, i1, i4, ih, iu⟩ := hI
  by_cases hlt : k < l.length
  · have hlt' : (k : Int) < (l.length : Int) := by omega
    have hw : IntKind.i64.wrap ((k : Int) + 1) = (k : Int) + 1 := IntWalk.i64_in _ (by omega)
    have hg : l[k]? = some l[k] := List.getElem?_eq_getElem hlt
    generalize l[k] = a at hg
    have sl : (entV a).length = 6 := rfl
    have tk6 : List.take 6 (entV a) = entV a := rfl
    have hput : putL [V.int IntKind.i64 0, V.int IntKind.i64 0, V.str [], V.str [], V.str [], V.bool false] 0 (entV a) = entV a := rfl
    have hmm : ∀ g, List.mapM (expC g [] 8) (entV a) = some (entV a) := fun g => rfl
    unfold l38_0
    by_cases q : at' ≤ a.2.1
    · have hE' : nxtE l at' = (a, true, 0) := by
        rcases hfx with ⟨f1, f2⟩ | ⟨k', a', f1, f2, f3⟩
        · have := List.find?_eq_none.1 f2 a (List.mem_of_getElem? hg)
          simp [q] at this
        · have := ixI_stop iu hg (by simpa using q)
          rw [f1] at this
          have : k' = k := by omega
          subst this
          rw [hg] at f2
          injection f2 with f2
          rw [hE, f3, f2]
      simp -dsimp [i8, i0, i1, i4, ih, h1, hlt', q, ent_ia hg, ent_ld hg, ent_l1 hg, sl, hput, tk6, hE']
      rw [hmm]
      rfl
    · simp -dsimp [i8, i0, i1, i4, ih, h1, hlt', q, hw, ent_ia hg, ent_ld hg, ent_l1 hg]
      exact ⟨by omega, iu.succ hg (by simpa using q)⟩
  · have hkl : k = l.length := by omega
    subst hkl
    have hE' : nxtE l at' = (z6E, false, 0) := by
      rcases hfx with ⟨f1, f2⟩ | ⟨k', a', f1, f2, f3⟩
      · rw [hE, f2]
      · have := ixI_none iu
        omega
    unfold l38_0
    simp -dsimp [i8, i0, i1, i4, ih, h1, hE', fillS, z6E, entV]
end Go.Proofs.P6
end
section
set_option linter.unusedVariables false
set_option linter.unusedSimpArgs false
namespace Go.Proofs.P6
open Go.Ex
abbrev Srt (l : List Entry) : Prop := l.Pairwise fun a b => befE a b = true
abbrev Ids (l : List Entry) : Prop := (l.map (·.1)).Nodup
structure EntsOk (l : List Entry) : Prop where
  most : l.length ≤ 1000
  each : ∀ x ∈ l, entE x = 0
  srt : Srt l
  ids : Ids l
  grp : grpN l l.length ≤ 50
theorem fe_none {f : Nat → Int} : ∀ {n : Nat}, (∀ k, k < n → f k = 0) → fe f n = 0
  | 0, _ => rfl
  | n + 1, h => fe_step (fe_none fun k hk => h k (by omega)) (h n (by omega))
theorem dup_iff {l : List Entry} {k : Nat} {x : Entry} (h : l[k]? = some x) : dupAt l k = true ↔ ∃ y ∈ l.take k, y.1 = x.1 := by
  unfold dupAt
  rw [h]
  simp
theorem ents_ok {l : List Entry} (h : entsE l = 0) : EntsOk l := by
  have hs := ents_sorted h
  have hm := ents_le h
  unfold entsE at h
  rw [if_neg (by omega)] at h
  split at h
  · rename_i q; exact absurd h q
  rename_i q1
  split at h
  · cases h
  rename_i q2
  split at h
  · cases h
  rename_i q3
  have q1' : fe (entsE1 l) l.length = 0 := by simpa using q1
  have q2' : fe (dup7 l) l.length = 0 := by simpa using q2
  refine ⟨hm, fun x hx => ?_, ?_, ?_, by omega⟩
  · obtain ⟨k, hk⟩ := List.getElem?_of_mem hx
    have := fe_zero q1' k (List.getElem?_eq_some_iff.1 hk).1
    unfold entsE1 at this
    rw [hk] at this
    simp only at this
    split at this
    · assumption
    · rename_i q; simpa using q
  · rw [Srt, List.pairwise_iff_getElem]
    intro i j hi hj hij
    exact hs (j - i - 1) i _ _ (List.getElem?_eq_getElem hi) (by rw [show i + 1 + (j - i - 1) = j by omega]; exact List.getElem?_eq_getElem hj)
  · rw [Ids, List.nodup_iff_pairwise_ne, List.pairwise_iff_getElem]
    intro i j hi hj hij he
    simp only [List.length_map] at hi hj
    simp only [List.getElem_map] at he
    have := fe_zero q2' j hj
    unfold dup7 at this
    rw [if_pos ((dup_iff (List.getElem?_eq_getElem hj)).2 ⟨l[i], List.mem_take_iff_getElem.2 ⟨i, by omega, rfl⟩, he⟩)] at this
    cases this
theorem ents_mk {l : List Entry} (g : EntsOk l) : entsE l = 0 := by
  unfold entsE
  rw [if_neg (by have := g.most; omega)]
  have h1 : fe (entsE1 l) l.length = 0 := fe_none fun k hk => by
    have hg : l[k]? = some l[k] := List.getElem?_eq_getElem hk
    unfold entsE1
    rw [hg]
    simp only [g.each l[k] (List.getElem_mem hk)]
    rw [if_neg (by simp)]
    by_cases q : 0 < k
    · have hz : l[k - 1]? = some l[k - 1] := List.getElem?_eq_getElem (by omega)
      rw [before_pos q hz]
      have := List.pairwise_iff_getElem.1 g.srt (k - 1) k (by omega) hk (by omega)
      rw [this]
      rfl
    · rw [before_zero q]
      rfl
  rw [if_neg (by rw [h1]; simp)]
  have h2 : fe (dup7 l) l.length = 0 := fe_none fun k hk => by
    have hg : l[k]? = some l[k] := List.getElem?_eq_getElem hk
    unfold dup7
    rw [if_neg]
    intro hd
    obtain ⟨y, hy, he⟩ := (dup_iff hg).1 hd
    obtain ⟨i, hi, rfl⟩ := List.mem_take_iff_getElem.1 hy
    have hn := List.pairwise_iff_getElem.1 (List.nodup_iff_pairwise_ne.1 g.ids) i k (by simp; omega) (by simpa using hk) (by omega)
    simp only [List.getElem_map] at hn
    exact hn he
  rw [if_neg (by rw [h2]; simp), if_neg (by have := g.grp; omega)]
/-- What is put stands in order. -/
theorem ins_parts {l : List Entry} {x : Entry} (hs : Srt l) (hx : ∀ y ∈ l, y.1 ≠ x.1) : (∀ y ∈ l.take (insK l x l.length), befE y x = true) ∧ ∀ y ∈ l.drop (insK l x l.length), befE x y = true := by
  obtain ⟨h1, h2⟩ := insK_spec l x l.length (Nat.le_refl _)
  have hle := insK_le l x l.length
  generalize insK l x l.length = p at *
  refine ⟨fun y hy => ?_, fun y hy => ?_⟩
  · obtain ⟨i, hi, rfl⟩ := List.mem_take_iff_getElem.1 hy
    have hp : 0 < p := by omega
    have hg : l[p - 1]? = some (l[p - 1]'(by omega)) := List.getElem?_eq_getElem (by omega)
    have hz := h2 _ hp hg
    have hzx : befE (l[p - 1]'(by omega)) x = true := by rw [befE_total (hx _ (List.getElem_mem _)), hz]; rfl
    by_cases e : i = p - 1
    · subst e; exact hzx
    · exact befE_trans (List.pairwise_iff_getElem.1 hs i (p - 1) (by omega) (by omega) (by omega)) hzx
  · obtain ⟨i, hi, rfl⟩ := List.mem_drop_iff_getElem.1 hy
    exact h1 (p + i) _ (by omega) (by omega) (List.getElem?_eq_getElem _)
theorem ins_srt {l : List Entry} {x : Entry} (hs : Srt l) (hx : ∀ y ∈ l, y.1 ≠ x.1) : Srt (ins l x) := by
  obtain ⟨h1, h2⟩ := ins_parts hs hx
  unfold ins
  have h3 : Srt (l.take (insK l x l.length) ++ l.drop (insK l x l.length)) := by rw [List.take_append_drop]; exact hs
  generalize l.take (insK l x l.length) = a at *
  generalize l.drop (insK l x l.length) = b at *
  obtain ⟨g1, g2, g3⟩ := List.pairwise_append.1 h3
  rw [Srt, List.append_assoc, List.pairwise_append]
  refine ⟨g1, ?_, fun y hy z hz => ?_⟩
  · exact List.pairwise_cons.2 ⟨h2, g2⟩
  · rcases List.mem_cons.1 hz with rfl | hz
    · exact h1 y hy
    · exact g3 y hy z hz
theorem ins_perm (l : List Entry) (x : Entry) : (ins l x).Perm (x :: l) := by
  unfold ins
  have : (l.take (insK l x l.length) ++ [x] ++ l.drop (insK l x l.length)).Perm (x :: (l.take (insK l x l.length) ++ l.drop (insK l x l.length))) := by
    rw [List.append_assoc]
    exact List.perm_middle
  rwa [List.take_append_drop] at this
theorem put_right {l a : List Entry} {x : Entry} (h : PutE l x = (a, 0)) : entsE a = 0 ∧ x ∈ a ∧ a.length = l.length + 1 ∧ DropE a x.1 = (l, 0) := by
  unfold PutE at h
  split at h
  · rename_i q; simp only [Prod.mk.injEq] at h; exact absurd h.2 q
  rename_i q1
  split at h
  · rename_i q; simp only [Prod.mk.injEq] at h; exact absurd h.2 q
  rename_i q2
  unfold putE at h
  split at h
  · simp at h
  rename_i q3
  split at h
  · simp at h
  rename_i q4
  simp only [Prod.mk.injEq, and_true] at h
  subst h
  have g := ents_ok (l := l) (by simpa using q1)
  have hne := idI_none (l := l) (id := x.1) (by omega)
  have hp := ins_perm l x
  have hok : EntsOk (ins l x) := ⟨by omega, fun y hy => by
    rcases List.mem_cons.1 (hp.mem_iff.1 hy) with rfl | hy
    · simpa using q2
    · exact g.each y hy, ins_srt g.srt hne, by
      rw [Ids, (hp.map (·.1)).nodup_iff, List.map_cons, List.nodup_cons]
      refine ⟨fun hm => ?_, g.ids⟩
      obtain ⟨y, hy, he⟩ := List.mem_map.1 hm
      exact hne y hy he, by omega⟩
  have he := ents_mk hok
  have hle := insK_le l x l.length
  have htl : (l.take (insK l x l.length)).length = insK l x l.length := by rw [List.length_take]; omega
  have hi : idI (ins l x) x.1 = insK l x l.length := by
    unfold idI
    refine ixI_stop (a := x) ?_ ?_ (by simp)
    · intro j y hj hy
      unfold ins at hy
      rw [List.append_assoc, List.getElem?_append_left (by omega)] at hy
      have := hne y (List.mem_of_mem_take (List.mem_of_getElem? hy))
      simpa using this
    · unfold ins
      rw [List.append_assoc, List.getElem?_append_right (by omega), htl]
      simp
  refine ⟨he, hp.mem_iff.2 (by simp), ins_len l x, ?_⟩
  unfold DropE
  rw [if_neg (by rw [he]; simp), hi, if_neg (by omega), Int.toNat_natCast]
  congr 1
  unfold wo ins
  rw [List.append_assoc, List.take_left' htl, ← List.drop_drop, List.drop_left' htl]
  show _ ++ l.drop _ = l
  rw [List.take_append_drop]
theorem put_bad {l a : List Entry} {x : Entry} {f : Int} (h : PutE l x = (a, f)) (hf : f ≠ 0) : a = [] := by
  unfold PutE at h
  split at h
  · simp only [Prod.mk.injEq] at h; exact h.1.symm
  split at h
  · simp only [Prod.mk.injEq] at h; exact h.1.symm
  unfold putE at h
  split at h
  · simp only [Prod.mk.injEq] at h; exact h.1.symm
  split at h
  · simp only [Prod.mk.injEq] at h; exact h.1.symm
  · simp only [Prod.mk.injEq] at h; exact absurd h.2.symm hf
theorem put_len (l : List Entry) (x : Entry) : (PutE l x).1.length ≤ 1000 := by
  unfold PutE
  split
  · simp
  split
  · simp
  unfold putE
  split
  · simp
  split
  · simp
  · rename_i q; simp only; omega
theorem drop_len (l : List Entry) (id : Int) : (DropE l id).1.length ≤ 1000 := by
  unfold DropE
  split
  · simp
  rename_i q
  split
  · simp
  · have := ents_le (l := l) (by simpa using q)
    simp only [wo, List.length_append, List.length_take, List.length_drop]
    omega
end Go.Proofs.P6
end
section
set_option linter.unusedVariables false
set_option linter.unusedSimpArgs false
set_option maxRecDepth 10000
set_option maxHeartbeats 8000000
namespace Go.Proofs.P6
open Go.Ex
theorem EntriesMatchSpec (l : List Entry) (x : Entry) (id at' : Int) (hok : ∀ x ∈ l, entOk x) (hx : entOk x) : OkF Try.prog 8 [.ro l.length (fl entCd l), .agg (entV x), .int .i64 id, .int .i64 at'] (.bool true, []) := by
  have e62 := Go.Ex.e62
  have p1 := Put_ok l x hok hx
  have p2 := PutRef_ok l x hok hx
  have p3 := Drop_ok l id hok
  have p4 := DropRef_ok l id hok
  have p5 := Next_ok l at' hok
  have p6 := NextRef_ok l at' hok
  have l1 := put_len l x
  have l2 := drop_len l id
  generalize PutE l x = r1 at *
  generalize DropE l id = r2 at *
  generalize nxtE l at' = r3 at *
  obtain ⟨a1, f1⟩ := r1
  obtain ⟨a2, f2⟩ := r2
  obtain ⟨y, b, f3⟩ := r3
  simp only at p1 p2 p3 p4 p5 p6 l1 l2
  refine OkF.W0 hm h8 (of_decide_eq_true rfl) ?_
  unfold c8
  have hpx : V.pureL (entV x) = true := rfl
  have hpy : V.pureL (entV y) = true := rfl
  have sl : (entV x).length = 6 := rfl
  have tk6 : List.take 6 (entV x) = entV x := rfl
  have sly : (entV y).length = 6 := rfl
  have tky : List.take 6 (entV y) = entV y := rfl
  have hput : putL [V.int IntKind.i64 0, V.int IntKind.i64 0, V.str [], V.str [], V.str [], V.bool false] 0 (entV y) = entV y := rfl
  have hseq : seqA false [0, 0, 2, 2, 2, 1] (.agg (entV y)) (.agg (entV y)) = some (.bool true) := by rw [ent_seq]; simp
  simp -dsimp [sl, tk6, hpx]
  refine call_one p1 (okRes_of (by simp [noRef, V.pure, hpx])) ?_
  simp -dsimp [sl, tk6, hpx]
  refine call_one p2 (okRes_of (by simp [noRef, V.pure, hpx])) ?_
  simp -dsimp
  refine call_int (CheckEntries_ok l hok) ?_
  simp -dsimp
  refine call_int (CheckEntriesRef_ok l hok) ?_
  simp -dsimp
  refine call_bool (equalEnt_ok a1 a1 (by omega)) ?_
  simp -dsimp
  refine call_one p3 (okRes_of (by simp)) ?_
  simp -dsimp
  refine call_one p4 (okRes_of (by simp)) ?_
  simp -dsimp
  refine call_bool (equalEnt_ok a2 a2 (by omega)) ?_
  simp -dsimp
  refine call_pure p5 (by simp) (by simp [V.pure, V.pureL, hpy]) ?_
  simp -dsimp [fillS, sly, tky, hput]
  refine call_pure p6 (by simp) (by simp [V.pure, V.pureL, hpy]) ?_
  simp -dsimp [fillS, sly, tky, hput, hseq]
  refine call_bool awake_ok ?_
  simp -dsimp
theorem entE_ok {x : Entry} (h : entE x = 0) : entOk x := by
  have e62 := Go.Ex.e62
  unfold entE at h
  split at h
  · cases h
  split at h
  · cases h
  split at h
  · cases h
  rename_i h1 h2 h3
  simp [cmd] at h2 h3
  have nl : ∀ s : List UInt8, (¬ s = [] → nm s = true) → s.length ≤ 40 := fun s hs => by
    by_cases q : s = []
    · subst q; decide
    · have := hs q
      simp only [nm, Bool.and_eq_true, decide_eq_true_eq] at this
      omega
  have l3 := nl _ h3.1
  have l4 := nl _ h3.2
  exact ⟨by omega, by omega, by omega⟩
theorem EntriesPutAndDropped (l : List Entry) (x : Entry) (hok : ∀ x ∈ l, entOk x) (hx : entOk x) : OkF Try.prog 7 [.ro l.length (fl entCd l), .agg (entV x)] (.bool true, []) := by
  have e62 := Go.Ex.e62
  have p1 := Put_ok l x hok hx
  have hgood := fun a => put_right (l := l) (a := a) (x := x)
  have hbad := fun a f => put_bad (l := l) (a := a) (x := x) (f := f)
  have l1 := put_len l x
  have hmem : ∀ a, PutE l x = (a, 0) → ∀ y ∈ a, entOk y := fun a ha y hy => by
    have he := (ents_ok (hgood a ha).1).each y hy
    exact entE_ok he
  generalize PutE l x = r1 at *
  obtain ⟨a, f⟩ := r1
  simp only at p1 l1
  refine OkF.W0 hm h7 (of_decide_eq_true rfl) ?_
  unfold c7
  have hpx : V.pureL (entV x) = true := rfl
  have sl : (entV x).length = 6 := rfl
  have tk6 : List.take 6 (entV x) = entV x := rfl
  simp -dsimp [sl, tk6, hpx]
  refine call_one p1 (okRes_of (by simp [noRef, V.pure, hpx])) ?_
  by_cases hf : f = 0
  · subst hf
    obtain ⟨g1, g2, g3, g4⟩ := hgood a rfl
    have p2 := Drop_ok a x.1 (hmem a rfl)
    rw [g4] at p2
    have p3 := CheckEntries_ok a (hmem a rfl)
    rw [g1] at p3
    have hw : IntKind.i64.wrap ((l.length : Int) + 1) = (l.length : Int) + 1 := IntWalk.i64_in _ (by omega)
    have g3' : (a.length : Int) = (l.length : Int) + 1 := by omega
    have hpx0 : V.pureL [V.int IntKind.i64 x.1, V.int IntKind.i64 x.2.1, V.str x.2.2.1, V.str x.2.2.2.1, V.str x.2.2.2.2.1, V.bool x.2.2.2.2.2] = true := rfl
    have hc := containsEnt_ok a x (by omega)
    have e0 : ∀ h, (entV x)[0]'h = .int .i64 x.1 := fun _ => rfl
    simp only at p2
    simp -dsimp [sl, tk6, hpx, e0]
    refine call_one p2 (okRes_of (by simp)) ?_
    simp -dsimp
    refine call_int p3 ?_
    simp -dsimp [sl, tk6, hpx]
    refine call_bool hc ?_
    simp -dsimp [g2, hw, g3']
    refine call_bool (equalEnt_ok l l (by omega)) ?_
    simp -dsimp
    refine call_bool awake_ok ?_
    simp -dsimp
  · have := hbad a f rfl hf
    subst this
    simp -dsimp [hf]
    refine call_bool awake_ok ?_
    simp -dsimp
end Go.Proofs.P6
end
