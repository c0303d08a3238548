/- The text of a schedule: the reference; A schedule read of a text: the reference; A schedule read of a text: the reference's lines; The laws of schedules' texts. -/
import Derived.Test.YtaegjihmpgdfcaaDoorA6
section
set_option linter.unusedVariables false
set_option linter.unusedSimpArgs false
set_option maxRecDepth 10000
set_option maxHeartbeats 8000000
namespace Go.Proofs.P4
open Go.Ex
section
variable {h : Hp} {k : Nat} {l : List Entry} {a : Entry}
theorem ent_l2 (e : l[k]? = some a) : ldA h (.rp (fl entCd l) (k * 6 + 2)) none = some (.str a.2.2.1) := ld_fl (n := 6) rfl (by decide) e
theorem ent_l4 (e : l[k]? = some a) : ldA h (.rp (fl entCd l) (k * 6 + 4)) none = some (.str a.2.2.2.2.1) := ld_fl (n := 6) rfl (by decide) e
theorem ent_l5 (e : l[k]? = some a) : ldA h (.rp (fl entCd l) (k * 6 + 5)) none = some (.bool a.2.2.2.2.2) := ld_fl (n := 6) rfl (by decide) e
end
theorem le_dsh (s : List UInt8) : s.length ≤ (dsh s).length := by
  unfold dsh
  split
  · rename_i q; rw [q]; simp
  · exact Nat.le_refl _
structure NTRI (l : List Entry) (k : Nat) (t : St) : Prop where
  i6 : t.t 6 = .int .i64 k
  i0 : t.t 0 = rE l
  ac : t.t 5 = .str (ET (l.take k))
theorem TextNR_ok (l : List Entry) (hok : ∀ x ∈ l, entOk x) : OkF Tryd.prog 13 [rE l] (.tup [.str (tsE l).1, .int .i64 (tsE l).2], []) := by
  refine OkF.W0 hm h13 (of_decide_eq_true rfl) ?_
  unfold c13
  have e62 := Go.Ex.e62
  simp -dsimp
  refine call_int (CheckEntriesRef_ok l hok) ?_
  simp -dsimp
  by_cases hb : entsE l = 0
  rotate_left
  · have e : tsE l = ([], entsE l) := by unfold tsE textN; rw [if_pos hb]
    simp -dsimp [hb, e]
  obtain ⟨hmost, heach⟩ := ents_each hb
  have e : tsE l = if 300000 < (ET l).length then ([], 2) else (ET l, 0) := by unfold tsE textN; rw [if_neg (by simpa using hb)]
  have hlen := etx_len heach
  rw [← ET_lines] at hlen
  simp -dsimp [hb]
  refine loop_to 6 l.length (NTRI l) (fun k t h => h.i6) ⟨by simp -dsimp, by simp -dsimp, by simp -dsimp [ET]⟩ (fun k t hk hI => ?_)
  obtain ⟨i6, i0, ac⟩ := hI
  by_cases hlt : k < l.length
  · have hlt' : (k : Int) < (l.length : Int) := by omega
    have hw : IntKind.i64.wrap ((k : Int) + 1) = (k : Int) + 1 := IntWalk.i64_in _ (by omega)
    have hg : l[k]? = some l[k] := List.getElem?_eq_getElem hlt
    have hx := heach _ (List.getElem_mem hlt)
    have hS : ET (l.take (k + 1)) = ET (l.take k) ++ (lnE l[k] ++ [10]) := by rw [List.take_succ_eq_append_getElem hlt, ET_snoc]
    have hlk : (ET (l.take k)).length ≤ 301000 := by
      have h1 := etx_len (l := l.take k) fun y hy => heach y (List.mem_of_mem_take hy)
      rw [← ET_lines] at h1
      have : (l.take k).length ≤ 1000 := by rw [List.length_take]; omega
      omega
    generalize l[k] = x at *
    have hln := lnE_len hx
    rw [lnE_eq] at hln hS
    have hbd : (1 ≤ x.1 ∧ x.1 ≤ 1000000000000) ∧ 0 ≤ x.2.1 ∧ x.2.1 ≤ 1000000000000 := by
      unfold entE at hx
      split at hx
      · cases hx
      rename_i q
      simpa [inB] using q
    have ia := Itoa_ok x.1 (by omega) (by omega)
    have ib := Itoa_ok x.2.1 (by omega) (by omega)
    have d1 := dash_ok x.2.2.2.2.1
    have d2 := dash_ok x.2.2.2.1
    generalize ET (l.take k) = T at *
    generalize Lib.itoa x.1 = sa at *
    generalize Lib.itoa x.2.1 = sb at *
    unfold l13_0
    have l3 := ent_l3 (h := t.h) hg
    have l4 := ent_l4 (h := t.h) hg
    have l5 := ent_l5 (h := t.h) hg
    cases hnt : x.2.2.2.2.2
    case' true => have hcn : cnd x = [33] ++ x.2.2.2.2.1 := by unfold cnd; rw [if_pos hnt]; rfl
    case' false => have hcn : cnd x = dsh x.2.2.2.2.1 := by unfold cnd; rw [if_neg (by rw [hnt]; simp)]
    all_goals
      rw [hnt] at l5
      rw [hcn] at hln hS
      simp only [List.length_append, List.length_singleton] at hln
      have u0 : ¬ (4611686018427387904 : Int) < 1 + (x.2.2.2.2.1.length : Int) := by
        have := le_dsh x.2.2.2.2.1
        omega
      simp -dsimp [i6, i0, ac, hlt', ent_ia hg, ent_l4 hg, ent_l5 hg, hnt]
      refine call_pure d1 (by simp) rfl ?_
      simp -dsimp [i6, i0, ac, ent_ia hg, ent_l4 hg, ent_l5 hg, hnt, ent_l0 hg, u0]
      have hbig : ∀ n : Int, n ≤ 4611686018427387904 → ¬ (4611686018427387904 : Int) < n := fun n h => by omega
      refine call_pure ia (by simp) rfl ?_
      simp -dsimp [i6, i0, ac, ent_ia hg, ent_l1 hg]
      repeat (rw [if_neg (by omega)]; simp -dsimp [i6, i0, ac, ent_ia hg, ent_l1 hg])
      refine call_pure ib (by simp) rfl ?_
      simp -dsimp [i6, i0, ac, ent_ia hg, ent_l3 hg]
      repeat (rw [if_neg (by omega)]; simp -dsimp [i6, i0, ac, ent_ia hg, ent_l3 hg])
      refine call_pure d2 (by simp) rfl ?_
      simp -dsimp [i6, i0, ac, ent_ia hg, ent_l2 hg, hw]
      repeat (rw [if_neg (by omega)]; simp -dsimp [i6, i0, ac, ent_ia hg, ent_l2 hg, hw])
      refine ⟨hlt, by simp -dsimp, by simp -dsimp [i0], ?_⟩
      simp -dsimp
      rw [hS]
      simp
  · have hkl : k = l.length := by omega
    subst hkl
    rw [List.take_length] at ac
    unfold l13_0
    simp -dsimp [i6, i0, ac]
    by_cases c : 300000 < (ET l).length
    · have c' : (300000 : Int) < ((ET l).length : Int) := by omega
      rw [if_pos c] at e
      simp -dsimp [c', e]
    · have c' : ¬ (300000 : Int) < ((ET l).length : Int) := by omega
      rw [if_neg c] at e
      simp -dsimp [c', e]
      simp [ac, exp1, e]
end Go.Proofs.P4
end
section
set_option linter.unusedVariables false
set_option linter.unusedSimpArgs false
set_option maxRecDepth 10000
set_option maxHeartbeats 8000000
namespace Go.Proofs.P4
open Go.Ex
def enOf (line : List UInt8) : Entry := if (enIn line).2 = true then (enIn line).1 else z6
theorem entryOf_ok (line : List UInt8) (hl : line.length < 4000000000) : OkF Tryd.prog 33 [.str line] (.tup [.agg (entV (enOf line)), .bool (enIn line).2], []) := by
  refine OkF.G0 hm h33 (of_decide_eq_true rfl) ?_
  unfold c33
  have e62 := Go.Ex.e62
  have hs := SplitN_ok line (by omega)
  rcases spN line with ⟨w, hw, e⟩ | ⟨hw, e⟩
  rotate_left
  · have hE : enIn line = (z6, false) := by unfold enIn; rw [hw]
    have hO : enOf line = z6 := by unfold enOf; rw [hE]; rfl
    generalize Lib.splitN line [32] 5 = ws at *
    have e' : ¬ ((ws.length : Int) = 5) := by omega
    simp -dsimp
    refine call_pure hs (by simp) (by simp [V.pure, V.pureL, fl_pure]) ?_
    simp -dsimp [e', hE, hO, z6, entV, fillS]
  have hE : enIn line = wE w := by unfold enIn; rw [hw]
  have hlen := jn5_len w
  rw [← w5_eq hw] at hlen
  obtain ⟨a, b, c, d, r⟩ := w
  simp only at hlen e
  obtain ⟨la, lb, lc, ld, lr⟩ := hlen
  have g0 : (Lib.splitN line [32] 5)[0]? = some a := by rw [e]; rfl
  have g1 : (Lib.splitN line [32] 5)[1]? = some b := by rw [e]; rfl
  have g2 : (Lib.splitN line [32] 5)[2]? = some c := by rw [e]; rfl
  have g3 : (Lib.splitN line [32] 5)[3]? = some d := by rw [e]; rfl
  have g4 : (Lib.splitN line [32] 5)[4]? = some r := by rw [e]; rfl
  have hn : (Lib.splitN line [32] 5).length = 5 := by rw [e]; rfl
  generalize Lib.splitN line [32] 5 = ws at *
  have hn' : (ws.length : Int) = 5 := by omega
  have d1 := Number_ok a 13 (by decide)
  have d2 := Number_ok b 13 (by decide)
  have wc := isRow33 c (by omega)
  have wd := isRow33 d (by omega)
  have pr := isRow32 r (by omega)
  have cp := CutPrefix_ok d [33]
  have hwE : wE (a, b, c, d, r) = if (wordB c && wordB d && plain r) = false then (z6, false) else if d = [33] then (z6, false) else
    (((digV a 13).1, (digV b 13).1, r, rdh c, if d[0]? = some 33 then d.drop 1 else rdh d, decide (d[0]? = some 33)), (digV a 13).2 && (digV b 13).2) := rfl
  unfold enOf
  rw [hE, hwE]
  clear hE hwE hw e
  generalize digV a 13 = r1 at *
  generalize digV b 13 = r2 at *
  obtain ⟨m1, k1⟩ := r1
  obtain ⟨m2, k2⟩ := r2
  simp only at d1 d2
  simp -dsimp
  refine call_pure hs (by simp) (by simp [V.pure, V.pureL, fl_pure]) ?_
  simp -dsimp [hn', s_ia0 g0, s_ld g0]
  refine call_pure d1 (by simp) (by simp [V.pure, V.pureL]) ?_
  simp -dsimp [s_ia1 g1, s_ld g1]
  refine call_pure d2 (by simp) (by simp [V.pure, V.pureL]) ?_
  simp -dsimp
  cases k1 with
  | false => cases hc : wordB c <;> cases hd : wordB d <;> cases hr : plain r <;> by_cases h3 : d = [33] <;> simp -dsimp [z6, entV, fillS, h3]
  | true =>
  cases k2 with
  | false => cases hc : wordB c <;> cases hd : wordB d <;> cases hr : plain r <;> by_cases h3 : d = [33] <;> simp -dsimp [z6, entV, fillS, h3]
  | true =>
  simp -dsimp [s_ia2 g2, s_ld g2]
  refine call_pure wc (by simp) rfl ?_
  cases hc : wordB c with
  | false => simp -dsimp [z6, entV, fillS]
  | true =>
  simp -dsimp [s_ia3 g3, s_ld g3]
  refine call_pure wd (by simp) rfl ?_
  cases hd : wordB d with
  | false => simp -dsimp [z6, entV, fillS]
  | true =>
  simp -dsimp [s_ia4 g4, s_ld g4]
  refine call_pure pr (by simp) rfl ?_
  cases hr : plain r with
  | false => simp -dsimp [z6, entV, fillS]
  | true =>
  simp -dsimp [s_ia3 g3, s_ld g3]
  by_cases h3 : d = [33]
  · simp -dsimp [h3, z6, entV, fillS]
  simp -dsimp [h3, fillS, s_ia4 g4, s_ld g4, s_ia2 g2, s_ld g2]
  have rc1 : c = [45] → rdh c = [] := fun q => by unfold rdh; rw [if_pos q]
  have rc2 : ¬ c = [45] → rdh c = c := fun q => by unfold rdh; rw [if_neg q]
  have rd1 : d = [45] → rdh d = [] := fun q => by unfold rdh; rw [if_pos q]
  have rd2 : ¬ d = [45] → rdh d = d := fun q => by unfold rdh; rw [if_neg q]
  by_cases hp : [33] <+: d
  · have h33 := pre33.1 hp
    obtain ⟨t, rfl⟩ := hp
    have ht : ¬ t = [] := fun q => h3 (by rw [q]; rfl)
    by_cases q1 : c = [45]
    · simp -dsimp [q1, s_ia3 g3, s_ld g3]
      refine call_pure cp (by simp) (by simp [V.pure, V.pureL]) ?_
      simp -dsimp [entV]
      simp [ht, rc1 q1]
    · simp -dsimp [q1, s_ia2 g2, s_ld g2, s_ia3 g3, s_ld g3]
      refine call_pure cp (by simp) (by simp [V.pure, V.pureL]) ?_
      simp -dsimp [entV]
      simp [ht, rc2 q1]
  · have h33 : ¬ d[0]? = some 33 := fun q => hp (pre33.2 q)
    by_cases q1 : c = [45]
    · simp -dsimp [q1, s_ia3 g3, s_ld g3]
      refine call_pure cp (by simp) (by simp [V.pure, V.pureL]) ?_
      by_cases q2 : d = [45]
      · simp -dsimp [entV, hp, h33, q2]
        simp [h3, h33, rc1 q1, show rdh [45] = [] from rfl]
      · simp -dsimp [entV, hp, h33, q2]
        simp [h3, h33, rc1 q1, rd2 q2]
    · simp -dsimp [q1, s_ia2 g2, s_ld g2, s_ia3 g3, s_ld g3]
      refine call_pure cp (by simp) (by simp [V.pure, V.pureL]) ?_
      by_cases q2 : d = [45]
      · simp -dsimp [entV, hp, h33, q2]
        simp [h3, h33, rc2 q1, show rdh [45] = [] from rfl]
      · simp -dsimp [entV, hp, h33, q2]
        simp [h3, h33, rc2 q1, rd2 q2]
end Go.Proofs.P4
end
section
set_option linter.unusedVariables false
set_option linter.unusedSimpArgs false
set_option maxRecDepth 10000
set_option maxHeartbeats 8000000
namespace Go.Proofs.P4
open Go.Ex
def NRI (text : List UInt8) (n : Nat) (t : St) : Prop := ∃ (f k : Nat) (tx : List UInt8) (b : List Entry), n = tx.length ∧ tx.length < f ∧ k + tx.length ≤ text.length ∧ rdG stN f tx ((k : Int) + 1) b = rdG stN (text.length + 1) text 1 [] ∧ t.t 0 = .str tx ∧ t.t 6 = .int .i64 ((k + 1 : Nat) : Int) ∧ b.length ≤ k ∧ (∀ x ∈ b, entOk x) ∧ Acc entCd t.h t.nx (t.t 5) b
def NRO (text : List UInt8) (e : E) (t : St) : Prop := (e = .exit 0 ∧ ∃ (b : List Entry), rdG stN (text.length + 1) text 1 [] = (b, 0) ∧ (∀ x ∈ b, entOk x) ∧ Acc entCd t.h t.nx (t.t 5) b) ∨ (e = .ret ∧ ∃ (b : List Entry) (n : Int), rdG stN (text.length + 1) text 1 [] = (b, n) ∧ 0 < n ∧ t.t 2 = .ns ∧ t.t 3 = .int .i64 n ∧ t.t 4 = .int .i64 10)
theorem readNR_loop {text : List UInt8} (hl : text.length < 4000000000) {n : Nat} {t : St} (hI : NRI text n t) : LP Tryd.prog l14_0 (NRO text) t ⟨⟩ ⟨⟩ := by
  refine loop_dec (NRI text) n hI (fun n t hI => ?_)
  obtain ⟨f, k, tx, b, hn, hf, hk, he, i0, i6, lk, ok, ac⟩ := hI
  have e62 := Go.Ex.e62
  generalize hR : rdG stN (text.length + 1) text 1 [] = R at he
  unfold l14_0
  cases f with
  | zero => omega
  | succ f =>
  by_cases c0 : tx = []
  · subst c0
    rw [rdG, if_pos rfl] at he
    simp -dsimp [i0]
    exact .inl ⟨rfl, b, hR.trans he.symm, ok, by simp -dsimp; exact ac⟩
  have hp : 0 < tx.length := List.length_pos_iff.2 c0
  have hlt := ib_lt tx 10
  rw [rdG, if_neg c0] at he
  have hcut := Cut_ok tx [10] (by omega)
  have out : ∀ (b' : List Entry) (t' : St), R = (b', (k : Int) + 1) → t'.t 2 = .ns → t'.t 3 = .int .i64 ((k + 1 : Nat) : Int) → t'.t 4 = .int .i64 10 → NRO text .ret t' := fun b' t' e1 e2 e3 e4 => .inr ⟨rfl, b', _, hR.trans e1, by omega, e2, e3, e4⟩
  have zp : ∀ x : Entry, V.pureL (entV x) = true := fun _ => rfl
  by_cases c1 : Lib.indexByte tx 10 < 0
  · rw [if_pos c1] at he
    rw [cut_miss c1] at hcut
    have hs := entryOf_ok tx (by omega)
    generalize enOf tx = y at *
    generalize (enIn tx).2 = ob at *
    have sl : (entV y).length = 6 := rfl
    simp -dsimp [i0, c0]
    refine call_pure hcut (by simp) (by simp [V.pure, V.pureL]) ?_
    simp -dsimp
    refine call_pure hs (by simp) (by simp [V.pure, V.pureL, zp]) ?_
    cases ob <;> simp -dsimp [i6, sl] <;> exact out b _ he.symm (by simp -dsimp) (by simp -dsimp) (by simp -dsimp)
  · rw [if_neg c1] at he
    obtain ⟨i, hi⟩ := Int.eq_ofNat_of_zero_le (show 0 ≤ Lib.indexByte tx 10 by omega)
    rw [cut_hit hi] at hcut
    rw [hi] at he hlt
    simp only [Int.toNat_natCast] at he
    have hlen : (tx.take i).length < 4000000000 := by rw [List.length_take]; omega
    have hs := entryOf_ok (tx.take i) hlen
    have hxo := enIn_ok hlen
    have hst : stN (tx.take i) b = (b ++ [(enIn (tx.take i)).1], (enIn (tx.take i)).2) := rfl
    have heo : (enIn (tx.take i)).2 = true → enOf (tx.take i) = (enIn (tx.take i)).1 := fun q => by unfold enOf; rw [if_pos q]
    rw [hst] at he
    generalize enOf (tx.take i) = y at *
    generalize enIn (tx.take i) = r at *
    obtain ⟨x, ob⟩ := r
    simp only at he hs hxo heo
    have sl : (entV y).length = 6 := rfl
    have tk6 : List.take 6 (entV y) = entV y := rfl
    have hput : putL [V.int IntKind.i64 0, V.int IntKind.i64 0, V.str [], V.str [], V.str [], V.bool false] 0 (entV y) = entV y := rfl
    have w2 : IntKind.i64.wrap ((k : Int) + 1 + 1) = (k : Int) + 1 + 1 := w_i64 (by omega) (by omega)
    simp -dsimp [i0, c0]
    refine call_pure hcut (by simp) (by simp [V.pure, V.pureL]) ?_
    simp -dsimp
    refine call_pure hs (by simp) (by simp [V.pure, V.pureL, zp]) ?_
    cases ob with
    | false =>
      rw [if_neg (by simp)] at he
      simp -dsimp [i6, sl]
      exact out _ _ he.symm (by simp -dsimp) (by simp -dsimp) (by simp -dsimp)
    | true =>
      rw [if_pos rfl] at he
      have := heo rfl
      subst this
      simp -dsimp [sl, hput, tk6, fillA]
      refine push_accW (d := entCd) (x := y) (ac.keep (nx' := t.nx + 1) (by omega) fun j hj ho => ?_) rfl rfl (by omega) (by omega) fun v1 h1 nx1 i' b1 b2 b3 b4 b5 b6 => ?_
      · have : ¬ j = t.nx := by omega
        simp [upd, *]
      simp -dsimp [i6, w2]
      refine ⟨(tx.drop (i + 1)).length, by rw [hn, List.length_drop]; omega, f, k + 1, tx.drop (i + 1), b ++ [y], rfl, by rw [List.length_drop]; omega, by rw [List.length_drop]; omega, ?_, by simp -dsimp, by simp -dsimp [w2], by simp; omega, fun z hz => ?_, by simp -dsimp; exact b1⟩
      · rw [hR, ← he]
        congr 1
      · rcases List.mem_append.1 hz with q | q
        · exact ok z q
        · rw [List.mem_singleton.1 q]; exact hxo
theorem ReadNR_ok (text : List UInt8) : OkF Tryd.prog 14 [.str text] (.tup [rE (rdN text).1, .int .i64 (rdN text).2.1, .int .i64 (rdN text).2.2], []) := by
  refine OkF.W0 hm h14 (of_decide_eq_true rfl) ?_
  unfold c14
  by_cases c0 : 300000 < text.length
  · have c0' : (300000 : Int) < (text.length : Int) := by omega
    have e : rdN text = ([], 0, 2) := by unfold rdN readN; rw [if_pos c0]
    simp -dsimp [c0', e]
  have c0' : ¬ (300000 : Int) < (text.length : Int) := by omega
  have e : rdN text = if 0 < (rdG stN (text.length + 1) text 1 []).2 then ([], (rdG stN (text.length + 1) text 1 []).2, 10) else
    if entsE (rdG stN (text.length + 1) text 1 []).1 ≠ 0 then ([], 0, entsE (rdG stN (text.length + 1) text 1 []).1) else ((rdG stN (text.length + 1) text 1 []).1, 0, 0) := by unfold rdN readN; rw [if_neg c0]
  simp -dsimp [c0']
  refine LP_cut _ (readNR_loop (text := text) (by omega) (n := text.length) ⟨text.length + 1, 0, text, [], rfl, by omega, by omega, by simp, by simp -dsimp, by simp -dsimp, by simp, by simp, by simp -dsimp; exact Acc.nil _ _⟩) ?_
  rintro ee t (⟨rfl, b, hR, ok, ac⟩ | ⟨rfl, b, n, hR, hn, t2, t3, t4⟩)
  · rw [hR] at e
    rw [if_neg (by simp)] at e
    simp only at e
    have hro := ac.ro (n := 7)
    simp -dsimp [hro]
    refine call_int (CheckEntriesRef_ok b ok) ?_
    simp -dsimp
    by_cases c2 : entsE b = 0
    · rw [if_neg (by simpa using c2)] at e
      simp -dsimp [c2, e]
      simp [ac.ex1]
    · rw [if_pos c2] at e
      simp -dsimp [c2, e]
  · rw [hR, if_pos hn] at e
    simp -dsimp [t2, t3, t4, e]
end Go.Proofs.P4
end
section
set_option linter.unusedVariables false
set_option linter.unusedSimpArgs false
set_option maxRecDepth 10000
set_option maxHeartbeats 8000000
namespace Go.Proofs.P4
open Go.Ex
theorem awake6_ok : OkF Tryd.prog 9 [] (.bool true, []) := by
  refine OkF.W0 hm h9 (of_decide_eq_true rfl) ?_
  unfold c9
  simp -dsimp [fillS, fillA]
  have e : toRO (upd (upd none0 0 (some ⟨0, 2, [.int .i64 1, .int .i64 3], none⟩)) 1 (some ⟨0, 2, [.str [97], .sl 0 0 0 1 (some 1)], none⟩)) 8 (.sl 1 0 0 1 (some 1)) = some (.ro 1 [.str [97], .ro 1 [.int .i64 1, .int .i64 3]]) := rfl
  have hi := Is_ok [([97], [(1, 3)])] [97] 2
  have hr : isR [([97], [(1, 3)])] [97] 2 = (true, 0) := by decide
  rw [hr] at hi
  simp -dsimp [e]
  refine call_one hi rfl ?_
  simp -dsimp
instance entDec : DecidableEq Entry := fun x y => (inferInstance : Decidable (x = y))
theorem ent_seq (n : Bool) (x y : Entry) : seqA n [0, 0, 2, 2, 2, 1] (.agg (entV x)) (.agg (entV y)) = some (.bool (if n then !decide (x = y) else decide (x = y))) := by
  obtain ⟨a1, a2, a3, a4, a5, a6⟩ := x
  obtain ⟨b1, b2, b3, b4, b5, b6⟩ := y
  cases n <;> simp [entV, seqA, tagOf, eqCells] <;> rw [Bool.eq_iff_iff] <;> simp
theorem equalEnt_ok (l m : List Entry) (hl : l.length < 2 ^ 62) : OkF Tryd.prog 12 [rE l, rE m] (.bool (decide (l = m)), []) :=
  equal_ok (d := entCd) (esz := 6) hm h12 rfl (by decide) (fun a b => ent_seq true a b) l m hl
theorem entE_ok {x : Entry} (h : entE x = 0) : entOk x := by
  have e62 := Go.Ex.e62
  unfold entE at h
  split at h
  · cases h
  split at h
  · cases h
  split at h
  · cases h
  rename_i h1 h2 h3
  simp [cmd] at h2 h3
  have nl : ∀ s : List UInt8, (¬ s = [] → nm s = true) → s.length ≤ 40 := fun s hs => by
    by_cases q : s = []
    · subst q; decide
    · have := hs q
      simp only [nm, Bool.and_eq_true, decide_eq_true_eq] at this
      omega
  have l3 := nl _ h3.1
  have l4 := nl _ h3.2
  exact ⟨by omega, by omega, by omega⟩
theorem rdN_bad {text : List UInt8} (h : (rdN text).2.2 ≠ 0) : (rdN text).1 = [] := by
  unfold rdN readN at h ⊢
  split
  · rfl
  split
  · rfl
  split
  · rfl
  · rename_i q1 q2 q3
    rw [if_neg q1, if_neg q2, if_neg q3] at h
    exact absurd rfl h
theorem rdN_ents (text : List UInt8) : entsE (rdN text).1 = 0 := by
  have z : entsE [] = 0 := by decide
  unfold rdN readN
  split
  · exact z
  split
  · exact z
  split
  · exact z
  · rename_i q; simpa using q
theorem EntriesTextsMatchSpec (l : List Entry) (text : List UInt8) (hok : ∀ x ∈ l, entOk x) : OkF Tryd.prog 5 [rE l, .str text] (.bool true, []) := by
  have e62 := Go.Ex.e62
  have k1 := TextN_ok l hok
  have k2 := TextNR_ok l hok
  have k3 := ReadN_ok text
  have k4 := ReadNR_ok text
  have hlen := (ents_each (rdN_ents text)).1
  refine OkF.W0 hm h5 (of_decide_eq_true rfl) ?_
  unfold c5
  generalize tsE l = r at *
  generalize rdN text = q at *
  obtain ⟨s, f⟩ := r
  obtain ⟨x, n, g⟩ := q
  simp only at k1 k2 k3 k4 hlen
  simp -dsimp
  refine call_pure k1 (by simp) (by simp [V.pure, V.pureL]) ?_
  simp -dsimp
  refine call_pure k2 (by simp) (by simp [V.pure, V.pureL]) ?_
  simp -dsimp
  refine call_pure k3 (by simp) (by simp [V.pure, V.pureL, fl_pure]) ?_
  simp -dsimp
  refine call_pure k4 (by simp) (by simp [V.pure, V.pureL, fl_pure]) ?_
  simp -dsimp
  refine call_bool (equalEnt_ok x x (by omega)) ?_
  simp -dsimp
  refine call_pure awake6_ok (by simp) rfl ?_
  simp -dsimp
theorem EntriesTextsComeBack (l : List Entry) (text : List UInt8) (hok : ∀ x ∈ l, entOk x) : OkF Tryd.prog 4 [rE l, .str text] (.bool true, []) := by
  have e62 := Go.Ex.e62
  refine OkF.W0 hm h4 (of_decide_eq_true rfl) ?_
  unfold c4
  have k1 := TextN_ok l hok
  have k3 := ReadN_ok text
  have hbad := rdN_bad (text := text)
  have hback := fun ms n => readN_text (E := entsE) (text := text) (l := ms) (n := n)
  have hents := rdN_ents text
  have hok2 : ∀ x ∈ (rdN text).1, entOk x := fun x hx => entE_ok ((ents_each hents).2 x hx)
  have hfwd : ∀ s, tsE l = (s, 0) → rdN s = (l, 0, 0) := fun s hs => textN_read (fun l hl => (ents_each hl).2) hs
  have hl62 : ∀ s, tsE l = (s, 0) → l.length < 2 ^ 62 := fun s hs => by
    have h := hfwd s hs
    have h2 := (ents_each (rdN_ents s)).1
    rw [h] at h2
    simp only at h2
    omega
  have k2 := fun s => ReadN_ok s
  have k4 := TextN_ok (rdN text).1 hok2
  have hb2 : ∀ ms n, rdN text = (ms, n, 0) → tsE ms = (text, 0) := fun ms n h => hback ms n h
  generalize rdN text = q at *
  obtain ⟨ms, n, g⟩ := q
  simp only at hbad k3 k4
  simp -dsimp
  have tail : True := trivial
  generalize hr : tsE l = r at *
  obtain ⟨x, f⟩ := r
  simp only at k1
  by_cases hf : f = 0
  · subst hf
    have e1 := hfwd x rfl
    have k2' := k2 x
    rw [e1] at k2'
    refine call_pure k1 (by simp) (by simp [V.pure, V.pureL]) ?_
    simp -dsimp
    refine call_pure k2' (by simp) (by simp [V.pure, V.pureL, fl_pure]) ?_
    simp -dsimp
    refine call_bool (equalEnt_ok l l (hl62 x rfl)) ?_
    simp -dsimp
    refine call_pure k3 (by simp) (by simp [V.pure, V.pureL, fl_pure]) ?_
    by_cases hg : g = 0
    · subst hg
      rw [hb2 ms n rfl] at k4
      simp -dsimp
      refine call_pure k4 (by simp) (by simp [V.pure, V.pureL]) ?_
      simp -dsimp
      refine call_pure awake6_ok (by simp) rfl ?_
      simp -dsimp
    · have := hbad hg
      subst this
      simp -dsimp [hg]
      refine call_pure awake6_ok (by simp) rfl ?_
      simp -dsimp
  · refine call_pure k1 (by simp) (by simp [V.pure, V.pureL]) ?_
    simp -dsimp [hf]
    refine call_pure k3 (by simp) (by simp [V.pure, V.pureL, fl_pure]) ?_
    by_cases hg : g = 0
    · subst hg
      rw [hb2 ms n rfl] at k4
      simp -dsimp
      refine call_pure k4 (by simp) (by simp [V.pure, V.pureL]) ?_
      simp -dsimp
      refine call_pure awake6_ok (by simp) rfl ?_
      simp -dsimp
    · have := hbad hg
      subst this
      simp -dsimp [hg]
      refine call_pure awake6_ok (by simp) rfl ?_
      simp -dsimp
end Go.Proofs.P4
end
