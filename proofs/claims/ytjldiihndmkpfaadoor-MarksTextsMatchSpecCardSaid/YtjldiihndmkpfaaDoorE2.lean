/- Numbers of decimal digits, both sides. -/
import Derived.Test.YtjldiihndmkpfaaDoorE1
import Derived.Lib.AtoiErr
set_option linter.unusedVariables false
set_option linter.unusedSimpArgs false
set_option maxRecDepth 10000
set_option maxHeartbeats 4000000
namespace Go.Proofs.P4
open Go.Ex
def digV (s : List UInt8) (most : Nat) : Int × Bool :=
  if s = [] then (0, false) else if most < s.length then (0, false) else if s[0]? = some 48 ∧ 1 < s.length then (0, false) else match Lib.decFrom 0 s with
    | some n => ((n : Nat), true)
    | none => (0, false)
theorem u8_48 {b : UInt8} : ((b.toNat : Int) = 48) ↔ b = 48 := by
  constructor
  · intro h
    have : b.toNat = 48 := by omega
    exact UInt8.toNat_inj.1 this
  · rintro rfl; rfl
theorem str_ne {s : List UInt8} (h : s ≠ []) : (s == []) = false := by cases s with | nil => exact absurd rfl h | cons a r => rfl
theorem dig_at {s : List UInt8} {k : Nat} (h : k < s.length) : s[k]? = some (s.getD k 0) := by
  rw [List.getElem?_eq_getElem h]; simp [List.getD, h]
theorem Digits_ok (s : List UInt8) (most : Nat) (h : most ≤ 18) : OkF Tryd.prog 49 [.str s, .int .i64 most] (.tup [.int .i64 (digV s most).1, .bool (digV s most).2], []) := by
  refine OkF.W0 hm h49 (of_decide_eq_true rfl) ?_
  unfold c49
  by_cases h0 : s = []
  · subst h0
    simp -dsimp [digV]
  have h0' := str_ne h0
  have hl : 0 < s.length := List.length_pos_iff.2 h0
  by_cases h1 : most < s.length
  · have h1' : (most : Int) < (s.length : Int) := by omega
    have e : digV s most = (0, false) := by unfold digV; rw [if_neg h0, if_pos h1]
    simp -dsimp [h0, h1', e]
  have h1' : ¬ (most : Int) < (s.length : Int) := by omega
  have g0 := dig_at hl
  have g0' : s[(0 : Int).toNat]? = some (s.getD 0 0) := g0
  have sub : digV s most = if s.getD 0 0 = 48 ∧ 1 < s.length then (0, false) else match Lib.decFrom 0 s with
    | some n => (((n : Nat) : Int), true)
    | none => (0, false) := by
    unfold digV
    rw [if_neg h0, if_neg h1, g0]
    simp only [Option.some.injEq]
  generalize s.getD 0 0 = a at *
  by_cases c2 : a = 48 ∧ 1 < s.length
  · obtain ⟨c3, c4⟩ := c2
    have c3' : ((a.toNat : Int) = 48) = True := eq_true (u8_48.2 c3)
    have c4' : (1 : Int) < (s.length : Int) := by omega
    have e : digV s most = (0, false) := by rw [sub, if_pos ⟨c3, c4⟩]
    simp -dsimp [h0, h1', g0, g0', c3', c4', e]
  rw [if_neg c2] at sub
  have main : ∀ t : St, t.t 0 = .str s → t.t 6 = .int .i64 0 → t.t 28 = .int .i64 0 → t.t 27 = .int .i64 s.length → t.h = none0 →
      LP Tryd.prog l49_0 (fun e t => (e = .exit 0 ∧ ∃ n : Nat, digV s most = ((n : Int), true) ∧ t.t 6 = .int .i64 n ∧ t.h = none0) ∨ (e = .ret ∧ digV s most = (0, false) ∧ t.t 4 = .int .i64 0 ∧ t.t 5 = .bool false ∧ t.h = none0)) t ⟨⟩ ⟨⟩ := by
    intro t i0 i6 i28 i27 ih
    refine for_lt s.length (fun k t => t.t 0 = .str s ∧ t.h = none0 ∧ ∃ n : Nat, Lib.decFrom 0 (s.take k) = some n ∧ t.t 6 = .int .i64 n) rfl (by omega) ⟨i0, ih, 0, rfl, i6⟩ i28 i27 (fun k t hk hI hi hn => ?_) (fun t hI hi hn => ?_)
    · obtain ⟨j0, jh, n, hn', j6⟩ := hI
      have gk := dig_at hk
      have gk' : s[((k : Nat) : Int).toNat]? = some (s.getD k 0) := by rw [Int.toNat_natCast]; exact gk
      have hlt := Lib.decFrom_take_lt hn' (by omega)
      generalize s.getD k 0 = b at *
      cases hd : Lib.digitVal b with
      | none =>
        have hbad : digV s most = (0, false) := by
          rw [sub]
          cases hs : Lib.decFrom 0 s with
          | none => rfl
          | some m =>
            obtain ⟨d, hd'⟩ := Lib.digit_of_decFrom s 0 m hs k b gk
            rw [hd] at hd'
            cases hd'
        unfold k49_0
        by_cases q1 : (b.toNat : Int) < 48
        · simp -dsimp [j0, hi, gk, gk', q1]
          exact ⟨hbad, jh⟩
        · have q2 : 57 < (b.toNat : Int) := by
            unfold Lib.digitVal at hd
            split at hd
            · cases hd
            · omega
          simp -dsimp [j0, hi, gk, gk', q1, q2]
          exact ⟨hbad, jh⟩
      | some d =>
        obtain ⟨d1, d2, rfl⟩ := Lib.digitVal_eq hd
        have hst := Lib.decFrom_take s k 0 n b _ hn' gk hd
        have q1 : ¬ (b.toNat : Int) < 48 := by omega
        have q2 : ¬ 57 < (b.toNat : Int) := by omega
        have w1 : IntKind.i64.wrap ((n : Int) * 10) = (n : Int) * 10 := w_i64 (by omega) (by omega)
        have w2 : IntKind.u8.wrap ((b.toNat : Int) - 48) = ((b.toNat - 48 : Nat) : Int) := by rw [IntWalk.u8_in _ (by omega)]; omega
        have w3 : IntKind.i64.wrap ((b.toNat - 48 : Nat) : Int) = ((b.toNat - 48 : Nat) : Int) := w_i64 (by omega) (by omega)
        have w4 : IntKind.i64.wrap ((n : Int) * 10 + ((b.toNat - 48 : Nat) : Int)) = ((n * 10 + (b.toNat - 48) : Nat) : Int) := by rw [w_i64 (by omega) (by omega)]; omega
        generalize b.toNat - 48 = dd at *
        generalize hnn : n * 10 + dd = n' at *
        unfold k49_0
        simp -dsimp [j0, j6, hi, gk, gk', q1, q2, w1, w2, w3, w4]
        exact ⟨hn, jh, n', hst, by simp -dsimp⟩
    · obtain ⟨j0, jh, n, hn', j6⟩ := hI
      rw [List.take_length] at hn'
      exact .inl ⟨rfl, n, by rw [sub, hn'], by simp -dsimp [j6], jh⟩
  by_cases c3 : (a.toNat : Int) = 48
  · have c4 : ¬ (1 : Int) < (s.length : Int) := fun q => c2 ⟨u8_48.1 c3, by omega⟩
    simp -dsimp [h0, h1', g0, g0', c3, c4]
    refine LP_cut _ (main _ (by simp -dsimp) (by simp -dsimp) (by simp -dsimp) (by simp -dsimp) (by simp -dsimp)) ?_
    rintro e t (⟨rfl, n, e, t6, th⟩ | ⟨rfl, e, t4, t5, th⟩)
    · simp -dsimp [t6, e]
    · simp -dsimp [t4, t5, e]
  · simp -dsimp [h0, h1', g0, g0', c3]
    refine LP_cut _ (main _ (by simp -dsimp) (by simp -dsimp) (by simp -dsimp) (by simp -dsimp) (by simp -dsimp)) ?_
    rintro e t (⟨rfl, n, e, t6, th⟩ | ⟨rfl, e, t4, t5, th⟩)
    · simp -dsimp [t6, e]
    · simp -dsimp [t4, t5, e]
theorem dec_all : ∀ (l : List UInt8) (acc : Nat), (∀ b ∈ l, Lib.digitVal b ≠ none) → ∃ n, Lib.decFrom acc l = some n
  | [], acc, _ => ⟨acc, rfl⟩
  | b :: r, acc, h => by
    unfold Lib.decFrom
    cases hd : Lib.digitVal b with
    | none => exact absurd hd (h b (by simp))
    | some d => exact dec_all r _ fun c hc => h c (List.mem_cons_of_mem _ hc)
theorem dig_in (b : UInt8) : digs.contains b = true ↔ Lib.digitVal b ≠ none := by
  have : ∀ x : Fin 256, digs.contains (UInt8.ofNat x.val) = (Lib.digitVal (UInt8.ofNat x.val)).isSome := by decide +kernel
  have h := this ⟨b.toNat, b.toNat_lt⟩
  simp only [UInt8.ofNat_toNat] at h
  rw [h]
  cases Lib.digitVal b <;> simp
theorem drop_head {p : UInt8 → Bool} : ∀ (l : List UInt8) (a : UInt8) (r : List UInt8), l.dropWhile p = a :: r → p a = false
  | [], a, r, h => by simp at h
  | b :: l, a, r, h => by
    rw [List.dropWhile_cons] at h
    split at h
    · exact drop_head l a r h
    · rename_i q
      injection h with h1 h2
      subst h1
      simpa using q
theorem drop_nil {p : UInt8 → Bool} : ∀ {l : List UInt8}, l.dropWhile p = [] ↔ ∀ b ∈ l, p b = true
  | [] => by simp
  | b :: l => by
    rw [List.dropWhile_cons]
    split
    · rename_i q
      rw [drop_nil (l := l)]
      simp [q]
    · rename_i q
      simp [q]
theorem trim_nil {l cs : List UInt8} : Lib.trimS l cs = [] ↔ ∀ b ∈ l, cs.contains b = true := by
  unfold Lib.trimS Lib.trimLeftS Lib.trimRightS
  constructor
  · intro h b hb
    rw [drop_nil] at h
    have hd : l.reverse.dropWhile (cs.contains ·) = [] := by
      cases hq : l.reverse.dropWhile (cs.contains ·) with
      | nil => rfl
      | cons a r =>
        have h1 := drop_head _ a r hq
        have h2 := h a (by rw [hq]; simp)
        rw [h1] at h2
        cases h2
    rw [drop_nil] at hd
    exact hd b (by simpa using hb)
  · intro h
    have hd : l.reverse.dropWhile (cs.contains ·) = [] := by
      rw [drop_nil]
      intro b hb
      exact h b (by simpa using hb)
    rw [hd]
    rfl
theorem trim_dec {s : List UInt8} : Lib.trimS s digs = [] ↔ ∃ n, Lib.decFrom 0 s = some n := by
  rw [trim_nil]
  constructor
  · exact fun h => dec_all s 0 fun b hb => (dig_in b).1 (h b hb)
  · rintro ⟨n, hn⟩ b hb
    obtain ⟨k, hk⟩ := List.getElem?_of_mem hb
    obtain ⟨d, hd⟩ := Lib.digit_of_decFrom s 0 n hn k b hk
    exact (dig_in b).2 (by rw [hd]; simp)
theorem atoi_dec {s : List UInt8} {n : Nat} (h0 : s ≠ []) (h : Lib.decFrom 0 s = some n) : Lib.atoi s = some (n : Int) := by
  cases s with
  | nil => exact absurd rfl h0
  | cons b r =>
    obtain ⟨d, hd⟩ := Lib.digit_of_decFrom (b :: r) 0 n h 0 b rfl
    obtain ⟨d1, d2, -⟩ := Lib.digitVal_eq hd
    have n1 : (b == 45) = false := by
      rw [beq_eq_false_iff_ne]
      rintro rfl
      simp at d1
    have n2 : (b == 43) = false := by
      rw [beq_eq_false_iff_ne]
      rintro rfl
      simp at d1
    simp only [Lib.atoi, n1, n2, Lib.decNat, h]
    simp
theorem number_ok (s : List UInt8) : OkF Tryd.prog 59 [.str s] (.tup [.int .i64 (digV s 9).1, .bool (digV s 9).2], []) := by
  refine OkF.W0 hm h59 (of_decide_eq_true rfl) ?_
  unfold c59
  by_cases h0 : s = []
  · subst h0
    simp -dsimp [digV]
  have hl : 0 < s.length := List.length_pos_iff.2 h0
  by_cases h1 : 9 < s.length
  · have h1' : (9 : Int) < (s.length : Int) := by omega
    have e : digV s 9 = (0, false) := by unfold digV; rw [if_neg h0, if_pos h1]
    simp -dsimp [h0, h1', e]
  have h1' : ¬ (9 : Int) < (s.length : Int) := by omega
  have g0 := dig_at hl
  have g0' : s[(0 : Int).toNat]? = some (s.getD 0 0) := g0
  have sub : digV s 9 = if s.getD 0 0 = 48 ∧ 1 < s.length then (0, false) else match Lib.decFrom 0 s with
    | some n => (((n : Nat) : Int), true)
    | none => (0, false) := by
    unfold digV
    rw [if_neg h0, if_neg h1, g0]
    simp only [Option.some.injEq]
  generalize s.getD 0 0 = a at *
  have ht := Trim_ok s (by omega)
  have hat := fun n => Atoi_ok s n (by omega)
  have dig0 : digs = [48, 49, 50, 51, 52, 53, 54, 55, 56, 57] := rfl
  have hfin : ∀ K : Prop, True := fun _ => trivial
  by_cases c4 : (1 : Int) < (s.length : Int)
  · by_cases c3 : (a.toNat : Int) = 48
    · have e : digV s 9 = (0, false) := by rw [sub, if_pos ⟨u8_48.1 c3, by omega⟩]
      simp -dsimp [h0, h1', g0, g0', c3, c4, e]
    · rw [if_neg (fun q => c3 (u8_48.2 q.1))] at sub
      simp -dsimp [h0, h1', g0, g0', c3, c4]
      refine call_pure ht (by simp) rfl ?_
      simp -dsimp
      cases hd : Lib.decFrom 0 s with
      | none =>
        have hq : ¬ Lib.trimS s digs = [] := fun q => by obtain ⟨n, hn⟩ := trim_dec.1 q; rw [hd] at hn; cases hn
        rw [hd] at sub
        simp -dsimp [hq, sub]
      | some n =>
        have hq : Lib.trimS s digs = [] := trim_dec.2 ⟨n, hd⟩
        rw [hd] at sub
        simp -dsimp [hq]
        refine call_one (hat n (atoi_dec h0 hd)) (okRes_of (by simp)) ?_
        simp -dsimp [sub, shift, shiftL]
  · rw [if_neg (fun q => c4 (by omega))] at sub
    simp -dsimp [h0, h1', g0, g0', c4]
    refine call_pure ht (by simp) rfl ?_
    simp -dsimp
    cases hd : Lib.decFrom 0 s with
    | none =>
      have hq : ¬ Lib.trimS s digs = [] := fun q => by obtain ⟨n, hn⟩ := trim_dec.1 q; rw [hd] at hn; cases hn
      rw [hd] at sub
      simp -dsimp [hq, sub]
    | some n =>
      have hq : Lib.trimS s digs = [] := trim_dec.2 ⟨n, hd⟩
      rw [hd] at sub
      simp -dsimp [hq]
      refine call_one (hat n (atoi_dec h0 hd)) (okRes_of (by simp)) ?_
      simp -dsimp [sub, shift, shiftL]
end Go.Proofs.P4

