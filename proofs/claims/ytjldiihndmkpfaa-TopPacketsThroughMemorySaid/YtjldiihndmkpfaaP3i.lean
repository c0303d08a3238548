/- Rounds, as the reference does it. -/
import Derived.Test.YtjldiihndmkpfaaP3h
set_option linter.unusedVariables false
set_option linter.unusedSimpArgs false
set_option maxRecDepth 10000
set_option maxHeartbeats 8000000
namespace Go.Proofs.P3
open Go.Ex
structure PI (b : Bank) (l : List Flip) (ev mn u : Nat) (s : List Scrub × List Int × Nat × List Flip) (j : Nat) (t : St) : Prop where
  t2 : t.t 2 = rF l
  t3 : t.t 3 = .int .i64 u
  t5 : t.t 5 = .pt 1 0 0
  t8 : t.t 8 = .pt 2 0 0
  t10 : t.t 10 = .pt 5 0 0
  t12 : t.t 12 = .int .i64 s.2.2.1
  t13 : t.t 13 = .int .i64 j
  acc : Acc scrCd t.h t.nx (t.t 11) s.1
  own : ∀ j, ownOf (t.t 11) = some j → 6 ≤ j
  nx : 6 ≤ t.nx
  h1 : t.h 1 = some ⟨0, 0, [.int .i64 ev, .int .i64 mn], none⟩
  h2 : t.h 2 = some ⟨0, 0, [.ns, .ns], none⟩
  h3 : t.h 3 = some ⟨0, 1, fl ic s.2.1, none⟩
  h4 : t.h 4 = some ⟨0, 1, fl ic b.2, none⟩
  h5 : t.h 5 = some ⟨0, 0, [.sl 3 0 0 b.1.length none, .sl 4 0 0 b.2.length none], none⟩
  drop : l.drop j = s.2.2.2
  jl : j ≤ l.length
theorem drop_get {α : Type} {l : List α} {j : Nat} {x : α} {r : List α} (h : l.drop j = x :: r) : l[j]? = some x ∧ l.drop (j + 1) = r ∧ j < l.length := by
  have h1 : j < l.length := by
    rcases Nat.lt_or_ge j l.length with q | q
    · exact q
    · rw [List.drop_eq_nil_of_le q] at h; cases h
  rw [List.drop_eq_getElem_cons h1] at h
  injection h with h2 h3
  exact ⟨by rw [List.getElem?_eq_getElem h1, h2], h3, h1⟩
theorem inner_ok {b : Bank} {l : List Flip} {ev mn u : Nat} {out : List Scrub} {cc : List Int} {frm : Nat} {rest : List Flip} {j : Nat} {M : Int} {t : St} {Q : E → St → Prop} (hI : PI b l ev mn u (out, cc, frm, rest) j t) (i14 : t.t 14 = .int .i64 M) (hcl : cc.length = b.1.length) (hci : ∀ y ∈ cc, inC y) (hlo : ∀ x ∈ rest, FlipOk b.1.length x) (hl2 : l.length ≤ 2000)
    (hQ : ∀ t1 j1, PI b l ev mn u (out, (flipTo M cc rest).1, frm, (flipTo M cc rest).2) j1 t1 → t1.t 14 = .int .i64 M → Q (.exit 2) t1) : LP Try.prog l92_0 Q t ⟨⟩ ⟨⟩ := by
  obtain ⟨c, s0⟩ := b
  simp only at hcl hlo
  refine loop_dec (fun n t1 => ∃ (c1 : List Int) (r1 : List Flip) (j1 : Nat), r1.length = n ∧ PI (c, s0) l ev mn u (out, c1, frm, r1) j1 t1 ∧ t1.t 14 = .int .i64 M ∧ flipTo M c1 r1 = flipTo M cc rest ∧ c1.length = c.length ∧ (∀ y ∈ c1, inC y) ∧ (∀ x ∈ r1, FlipOk c.length x)) rest.length ?_ (fun n t1 hJ => ?_)
  · exact ⟨cc, rest, j, rfl, hI, i14, rfl, hcl, hci, hlo⟩
  · obtain ⟨c1, r1, j1, hn1, hP, i14, hf, hcl1, hci1, hlo1⟩ := hJ
    have hdp := hP.drop
    simp only at hdp
    unfold l92_0
    have stop : flipTo M c1 r1 = (c1, r1) → ∀ t2 : St, t2.h = t1.h → t2.nx = t1.nx → t2.t 2 = t1.t 2 → t2.t 3 = t1.t 3 → t2.t 5 = t1.t 5 → t2.t 8 = t1.t 8 → t2.t 10 = t1.t 10 → t2.t 11 = t1.t 11 → t2.t 12 = t1.t 12 → t2.t 13 = t1.t 13 → t2.t 14 = t1.t 14 → Q (.exit 2) t2 := by
      intro hst t2 eh enx e2 e3 e5 e8 e10 e11 e12 e13 e14
      refine hQ t2 j1 ?_ (by rw [e14, i14])
      rw [← hf, hst]
      exact ⟨by rw [e2, hP.t2], by rw [e3, hP.t3], by rw [e5, hP.t5], by rw [e8, hP.t8], by rw [e10, hP.t10], by rw [e12, hP.t12], by rw [e13, hP.t13], by rw [eh, enx, e11]; exact hP.acc, by rw [e11]; exact hP.own, by rw [enx]; exact hP.nx, by rw [eh, hP.h1], by rw [eh, hP.h2], by rw [eh, hP.h3], by rw [eh, hP.h4], by rw [eh, hP.h5], hP.drop, hP.jl⟩
    cases r1 with
    | nil =>
      have hjl : ¬ j1 < l.length := fun q => by
        have := congrArg List.length hdp
        rw [List.length_drop] at this
        simp at this
        omega
      have hjl' : ¬ ((j1 : Int) < (l.length : Int)) := by omega
      simp -dsimp [hP.t13, hP.t2, hjl, hjl']
      refine stop rfl _ ?_ ?_ ?_ ?_ ?_ ?_ ?_ ?_ ?_ ?_ ?_ <;> simp -dsimp [hP.t13]
    | cons x r2 =>
      obtain ⟨hg, hd1, hjl⟩ := drop_get hdp
      have hjl' : (j1 : Int) < (l.length : Int) := by omega
      have hx := hlo1 x (by simp)
      have hfl : flipTo M c1 (x :: r2) = if x.1 ≤ M then flipTo M (flip1 c1 x) r2 else (c1, x :: r2) := rfl
      by_cases q : x.1 ≤ M
      · rw [if_pos q] at hfl
        rw [hfl] at hf
        have hx0 := hx.p0; have hx1 := hx.p1
        obtain ⟨p, hp⟩ : ∃ p : Nat, x.2.1 = p := ⟨x.2.1.toNat, by omega⟩
        have hpc : p < c1.length := by omega
        have hin := lAt_in hci1 hpc
        have h3 := hP.h3
        simp only at h3
        have eia : ∀ K, iaddrK t1.h (.sl 3 0 0 c.length none) (.int .i64 p) 1 K ⟨⟩ = K (.pt 3 0 p) [3] := fun K => by rw [← hcl1]; exact own_ia h3 hpc
        have eld := own_ld h3 hpc
        have hxo := A_xorI hin hx.b0 hx.b1
        have hbt := A_btI (k := .i64) hx.b0 hx.b1
        have w1 : IntKind.i64.wrap (x.2.2 - 1) = x.2.2 - 1 := w_i64 (by have := hx.b0; omega) (by have := hx.b1; omega)
        have hset : c1.set p (xorI (lAt c1 p) x.2.2) = flip1 c1 x := by unfold flip1; rw [hp]; rfl
        have hlen1 := own_len (c := c1)
        have hpc1 : p + 1 ≤ c1.length := hpc
        have wj : IntKind.i64.wrap ((j1 : Int) + 1) = ((j1 + 1 : Nat) : Int) := by rw [w_i64 (by omega) (by omega)]; omega
        simp -dsimp [hP.t13, hP.t2, hP.t3, hjl, hjl', f_ia hg, f_l0 hg, f_l1 hg, f_l2 hg, q, hP.t10, hP.h5, hp, eia, eld, -i_shl, -i_xor, hbt, hxo, w1, h3, hlen1, hpc1, own_set, hset, wj, i14]
        refine ⟨r2.length, by simp at hn1; omega, flip1 c1 x, r2, rfl, ?_⟩
        have hA : Acc scrCd (upd t1.h 3 (some ⟨0, 1, fl ic (flip1 c1 x), none⟩)) t1.nx (t1.t 11) out := hP.acc.keep (Nat.le_refl _) fun j hj ho => by
          have := hP.own j ho
          simp only [upd]
          rw [if_neg (by omega)]
        refine ⟨⟨j1 + 1, by simp -dsimp [hP.t2], by simp -dsimp [hP.t3], by simp -dsimp [hP.t5], by simp -dsimp [hP.t8], by simp -dsimp [hP.t10], by simp -dsimp [hP.t12], by simp -dsimp, by simp -dsimp; exact hA, by simpa using hP.own, by simp -dsimp [hP.nx], by simp -dsimp [hP.h1], by simp -dsimp [hP.h2], by simp -dsimp, by simp -dsimp [hP.h4], by simp -dsimp [hP.h5], hd1, by omega⟩, hf, ?_⟩
        exact ⟨by rw [flip1_len]; exact hcl1, flip1_in hci1 (by rw [hcl1]; exact hx), fun _ _ _ h => hlo1 _ (by simp [h])⟩
      · rw [if_neg q] at hfl
        simp -dsimp [hP.t13, hP.t2, hP.t3, hjl, hjl', f_ia hg, f_l0 hg, q, i14]
        refine stop hfl _ ?_ ?_ ?_ ?_ ?_ ?_ ?_ ?_ ?_ ?_ ?_ <;> simp -dsimp [hP.t13]
theorem play_ok (b : Bank) (ev mn u : Nat) (l : List Flip) (hb : BankOk b) (hl : ∀ x ∈ l, FlipOk b.1.length x) (hl2 : l.length ≤ 2000) (he : 1 ≤ ev) (he2 : ev ≤ 1000000000001) (hmn : mn ≤ 5000) (hu : u ≤ 1000000000000) (hw : u / ev * mn ≤ 1000000) :
    OkF Try.prog 92 [bkV b, rdV (ev, mn), rF l, .int .i64 u] (.tup [bkV ((liveS ev mn b.1 l u).1, b.2), rS (liveS ev mn b.1 l u).2], []) := by
  obtain ⟨c, s0⟩ := b
  have hpos := hb.pos; have hmost := hb.most
  simp only at hpos hmost hl
  have hR := rnd_ok (ev := ev) (mn := mn) (l := l) hpos hb.c hl
  refine OkF.G0 hm h92 (of_decide_eq_true rfl) ?_
  unfold c92
  simp -dsimp
  refine call_own (copiedR_ok (c, s0) hb) ?_ ?_
  · exact okRes_of (by simp)
  simp -dsimp [cpR, addB]
  have hLS : liveS ev mn c l u = ((flipTo (u : Int) (rnd ev mn c l (u / ev)).2.1 (rnd ev mn c l (u / ev)).2.2.2).1, (rnd ev mn c l (u / ev)).1) := rfl
  have hmulle : u / ev * ev ≤ u := Nat.div_mul_le_self u ev
  have hmulgt : u < (u / ev + 1) * ev := by
    have := Nat.div_add_mod u ev
    have := Nat.mod_lt u (show ev > 0 by omega)
    rw [Nat.add_mul, Nat.mul_comm (u / ev) ev]
    omega
  have hdl : u / ev ≤ u := Nat.div_le_self _ _
  generalize u / ev = N at *
  refine loop_left N (fun n t => ∃ j, PI (c, s0) l ev mn u (rnd ev mn c l (N - n)) j t ∧ t.t 14 = .int .i64 (((N - n + 1) * ev : Nat) : Int)) ?_ (fun t hI => ?_) (fun n t hn hI => ?_)
  · rw [Nat.sub_self]
    refine ⟨0, ⟨by simp -dsimp, by simp -dsimp, by simp -dsimp, by simp -dsimp, by simp -dsimp, by simp -dsimp [rnd], by simp -dsimp, by simp -dsimp [rnd, Acc.nil], fun j hj => by simp [ownOf] at hj, by simp -dsimp, by simp -dsimp, by simp -dsimp, by simp -dsimp [rnd], by simp -dsimp, by simp -dsimp, by simp [rnd], Nat.zero_le _⟩, by simp -dsimp⟩
  · obtain ⟨j, hI, i14⟩ := hI
    rw [Nat.sub_zero] at hI i14
    have hRN := hR N
    generalize rnd ev mn c l N = s at *
    obtain ⟨out, cc, frm, rest⟩ := s
    generalize (N + 1) * ev = M at *
    have hlt : ¬ M ≤ u := by omega
    have hlt' : ¬ ((M : Int) ≤ (u : Int)) := by omega
    have hcl := hRN.len
    have hci := hRN.cin
    have hlo := hRN.lok
    simp only at hcl hci hlo
    unfold l92_1
    simp -dsimp [hI.t2, hI.t3, i14, hlt, hlt']
    refine loop_dec (fun n t1 => ∃ (c1 : List Int) (r1 : List Flip) (j1 : Nat), r1.length = n ∧ PI (c, s0) l ev mn u (out, c1, frm, r1) j1 t1 ∧ flipTo (u : Int) c1 r1 = flipTo (u : Int) cc rest ∧ c1.length = c.length ∧ (∀ y ∈ c1, inC y) ∧ (∀ x ∈ r1, FlipOk c.length x)) rest.length ?_ (fun n t1 hJ => ?_)
    · refine ⟨cc, rest, j, rfl, ⟨by simp -dsimp [hI.t2], by simp -dsimp [hI.t3], by simp -dsimp [hI.t5], by simp -dsimp [hI.t8], by simp -dsimp [hI.t10], by simp -dsimp [hI.t12], by simp -dsimp [hI.t13], by simp -dsimp [hI.acc], by simpa using hI.own, by simp -dsimp [hI.nx], by simp -dsimp [hI.h1], by simp -dsimp [hI.h2], by simp -dsimp [hI.h3], by simp -dsimp [hI.h4], by simp -dsimp [hI.h5], hI.drop, hI.jl⟩, rfl, hcl, hci, hlo⟩
    · obtain ⟨c1, r1, j1, hn1, hP, hf, hcl1, hci1, hlo1⟩ := hJ
      have hdp := hP.drop
      simp only at hdp
      unfold l92_2
      have hA : Acc scrCd (upd t1.h 2 (some ⟨0, 0, [.sl 3 0 0 c.length none, .sl 4 0 0 s0.length none], none⟩)) t1.nx (t1.t 11) out := hP.acc.keep (Nat.le_refl _) fun j hj ho => by
        have := hP.own j ho
        simp only [upd]
        rw [if_neg (by omega)]
      have hX := hA.ex1
      have c5 : ∀ n, expC (upd t1.h 2 (some ⟨0, 0, [.sl 3 0 0 c.length none, .sl 4 0 0 s0.length none], none⟩)) [] (n + 1) (.sl 3 0 0 c.length none) = some (rI c1) := fun n => by
        have := (Acc.mk (d := ic) (l := c1) (h := upd t1.h 2 (some ⟨0, 0, [.sl 3 0 0 c.length none, .sl 4 0 0 s0.length none], none⟩)) (nx := 6) (id := 3) (ver := 0) (cap := none) (by omega) (by simp [hP.h3])).exC (n := n)
        rw [hcl1] at this
        rw [this]
        show _ = some (V.ro _ _)
        rw [hcl1]
      have c6 : ∀ n, expC (upd t1.h 2 (some ⟨0, 0, [.sl 3 0 0 c.length none, .sl 4 0 0 s0.length none], none⟩)) [] (n + 1) (.sl 4 0 0 s0.length none) = some (rI s0) := fun n =>
        (Acc.mk (d := ic) (l := s0) (h := upd t1.h 2 (some ⟨0, 0, [.sl 3 0 0 c.length none, .sl 4 0 0 s0.length none], none⟩)) (nx := 6) (id := 4) (ver := 0) (cap := none) (by omega) (by simp [hP.h4])).exC (n := n)
      have hl1 : flipTo (u : Int) c1 r1 = (c1, r1) → (liveS ev mn c l u).1 = c1 ∧ (liveS ev mn c l u).2 = out := fun e => by
        rw [hLS]
        simp only
        rw [← hf, e]
        exact ⟨rfl, by trivial⟩
      cases r1 with
      | nil =>
        have hjl : ¬ j1 < l.length := fun q => by
          have := congrArg List.length hdp
          rw [List.length_drop] at this
          simp at this
          omega
        have hjl' : ¬ ((j1 : Int) < (l.length : Int)) := by omega
        obtain ⟨f1, f2⟩ := hl1 rfl
        simp -dsimp [hP.t13, hP.t2, hjl, hjl', hP.t10, hP.h5, hP.t8, hP.h2]
        simp [f1, f2, c5 7, c6 7, hX]
      | cons x r2 =>
        obtain ⟨hg, hd1, hjl⟩ := drop_get hdp
        have hjl' : (j1 : Int) < (l.length : Int) := by omega
        have hx := hlo1 x (by simp)
        have hfl : flipTo (u : Int) c1 (x :: r2) = if x.1 ≤ u then flipTo (u : Int) (flip1 c1 x) r2 else (c1, x :: r2) := rfl
        by_cases q : x.1 ≤ u
        · rw [if_pos q] at hfl
          rw [hfl] at hf
          have hx0 := hx.p0; have hx1 := hx.p1
          obtain ⟨p, hp⟩ : ∃ p : Nat, x.2.1 = p := ⟨x.2.1.toNat, by omega⟩
          have hpc : p < c1.length := by omega
          have hin := lAt_in hci1 hpc
          have h3 := hP.h3
          simp only at h3
          have eia : ∀ K, iaddrK t1.h (.sl 3 0 0 c.length none) (.int .i64 p) 1 K ⟨⟩ = K (.pt 3 0 p) [3] := fun K => by rw [← hcl1]; exact own_ia h3 hpc
          have eld := own_ld h3 hpc
          have hxo := A_xorI hin hx.b0 hx.b1
          have hbt := A_btI (k := .i64) hx.b0 hx.b1
          have w1 : IntKind.i64.wrap (x.2.2 - 1) = x.2.2 - 1 := w_i64 (by have := hx.b0; omega) (by have := hx.b1; omega)
          have hset : c1.set p (xorI (lAt c1 p) x.2.2) = flip1 c1 x := by unfold flip1; rw [hp]; rfl
          have hlen1 := own_len (c := c1)
          have hpc1 : p + 1 ≤ c1.length := hpc
          have wj : IntKind.i64.wrap ((j1 : Int) + 1) = ((j1 + 1 : Nat) : Int) := by rw [w_i64 (by omega) (by omega)]; omega
          simp -dsimp [hP.t13, hP.t2, hP.t3, hjl, hjl', f_ia hg, f_l0 hg, f_l1 hg, f_l2 hg, q, hP.t10, hP.h5, hp, eia, eld, -i_shl, -i_xor, hbt, hxo, w1, h3, hlen1, hpc1, own_set, hset, wj]
          refine ⟨r2.length, by simp at hn1; omega, flip1 c1 x, r2, rfl, ?_⟩
          have hA : Acc scrCd (upd t1.h 3 (some ⟨0, 1, fl ic (flip1 c1 x), none⟩)) t1.nx (t1.t 11) out := hP.acc.keep (Nat.le_refl _) fun j hj ho => by
            have := hP.own j ho
            simp only [upd]
            rw [if_neg (by omega)]
          refine ⟨⟨j1 + 1, by simp -dsimp [hP.t2], by simp -dsimp [hP.t3], by simp -dsimp [hP.t5], by simp -dsimp [hP.t8], by simp -dsimp [hP.t10], by simp -dsimp [hP.t12], by simp -dsimp, by simp -dsimp; exact hA, by simpa using hP.own, by simp -dsimp [hP.nx], by simp -dsimp [hP.h1], by simp -dsimp [hP.h2], by simp -dsimp, by simp -dsimp [hP.h4], by simp -dsimp [hP.h5], hd1, by omega⟩, hf, ?_⟩
          exact ⟨by rw [flip1_len]; exact hcl1, flip1_in hci1 (by rw [hcl1]; exact hx), fun _ _ _ h => hlo1 _ (by simp [h])⟩
        · rw [if_neg q] at hfl
          obtain ⟨f1, f2⟩ := hl1 hfl
          simp -dsimp [hP.t13, hP.t2, hP.t3, hjl, hjl', f_ia hg, f_l0 hg, q, hP.t10, hP.h5, hP.t8, hP.h2]
          simp [f1, f2, c5 7, c6 7, hX]
  · obtain ⟨j, hI, i14⟩ := hI
    obtain ⟨k, hk⟩ : ∃ k, N - (n + 1) = k := ⟨_, rfl⟩
    have hk1 : N - n = k + 1 := by omega
    rw [hk] at hI i14
    rw [hk1]
    have hkN : k + 1 ≤ N := by omega
    have hkev : (k + 1) * ev ≤ u := Nat.le_trans (Nat.mul_le_mul_right _ hkN) hmulle
    have hkmn : (k + 1) * mn ≤ 1000000 := Nat.le_trans (Nat.mul_le_mul_right _ hkN) hw
    have hRk := hR k
    have hS : rnd ev mn c l (k + 1) = ((rnd ev mn c l k).1 ++ (scr (rnd ev mn c l k).2.2.1 (((k + 1) * ev : Nat) : Int) (flipTo (((k + 1) * ev : Nat) : Int) (rnd ev mn c l k).2.1 (rnd ev mn c l k).2.2.2).1 mn).1,
      (scr (rnd ev mn c l k).2.2.1 (((k + 1) * ev : Nat) : Int) (flipTo (((k + 1) * ev : Nat) : Int) (rnd ev mn c l k).2.1 (rnd ev mn c l k).2.2.2).1 mn).2,
      ((rnd ev mn c l k).2.2.1 + mn) % c.length, (flipTo (((k + 1) * ev : Nat) : Int) (rnd ev mn c l k).2.1 (rnd ev mn c l k).2.2.2).2) := rfl
    rw [hS]
    generalize rnd ev mn c l k = s at *
    obtain ⟨out, cc, frm, rest⟩ := s
    simp only at *
    obtain ⟨r1, r2, r3, r4, r5, r6⟩ := hRk
    simp only at r1 r2 r3 r4 r5 r6
    have hnext : (k + 1 + 1) * ev = (k + 1) * ev + ev := Nat.succ_mul (k + 1) ev
    rw [hnext]
    rw [Nat.add_mul] at hkmn
    generalize (k + 1) * ev = M at *
    have hle : M ≤ u := hkev
    have hle' : (M : Int) ≤ (u : Int) := by omega
    have hM : IntKind.i64.wrap ((M : Int) + (ev : Int)) = ((M + ev : Nat) : Int) := by rw [w_i64 (by omega) (by omega)]; omega
    unfold l92_1
    simp -dsimp [hI.t3, i14, hle, hle']
    refine inner_ok (b := (c, s0)) (l := l) (ev := ev) (mn := mn) (u := u) (out := out) (cc := cc) (frm := frm) (rest := rest) (j := j) (M := (M : Int)) ⟨by simp -dsimp [hI.t2], by simp -dsimp [hI.t3], by simp -dsimp [hI.t5], by simp -dsimp [hI.t8], by simp -dsimp [hI.t10], by simp -dsimp [hI.t12], by simp -dsimp [hI.t13], by simp -dsimp [hI.acc], by simpa using hI.own, by simp -dsimp [hI.nx], by simp -dsimp [hI.h1], by simp -dsimp [hI.h2], by simp -dsimp [hI.h3], by simp -dsimp [hI.h4], by simp -dsimp [hI.h5], hI.drop, hI.jl⟩ (by simp -dsimp [i14]) r2 r3 r5 hl2 fun t1 j1 hP i14 => ?_
    have fl1 := flipTo_len (M : Int) rest cc
    have fi := flipTo_in (M : Int) rest cc r3 (by rw [r2]; exact r5)
    generalize flipTo (M : Int) cc rest = f at *
    have h5 := hP.h5
    simp only at h5
    rw [← r2, ← fl1] at h5
    have hnx := hP.nx
    simp -dsimp [hP.t10, hP.t5, hP.t12, h5, hP.h1, i14]
    refine shr_ex (scrubR_ex (c := f.1) (idc := 3) (ver := 0) (by omega) hP.h3 (by omega) (by omega) fi (by omega) hmn) ?_
    rintro v2 h2 nx2 ⟨a1, a2, a3, a4, a5⟩
    have sl := scr_len frm (M : Int) f.1 mn
    have hA : Acc scrCd h2 nx2 (t1.t 11) out := hP.acc.keep (by omega) fun j hj ho => by
      have := hP.own j ho
      rw [a5 j hj (by omega)]
    have hsrc := a1.src
    rw [show scrCd.sz = 4 from rfl] at hsrc
    simp -dsimp [hsrc]
    refine app_acc (d := scrCd) (l' := (scr frm (M : Int) f.1 mn).1) hA rfl rfl (by omega) (by omega) fun v3 h3 nx3 b1 b2 b3 b4 => ?_
    have own10 : ∀ j, ownOf (t1.t 11) = some j → 6 ≤ j := hP.own
    have keep : ∀ j, j < 6 → h3 j = h2 j := fun j hj => b3 j (by omega) (fun e => by have := own10 j e; omega)
    have m1 : h3 1 = some ⟨0, 0, [.int .i64 ev, .int .i64 mn], none⟩ := by rw [keep 1 (by decide), a5 1 (by omega) (by decide), hP.h1]
    have m2 : h3 2 = some ⟨0, 0, [.ns, .ns], none⟩ := by rw [keep 2 (by decide), a5 2 (by omega) (by decide), hP.h2]
    have m3 : h3 3 = some ⟨0, 1, fl ic (scr frm (M : Int) f.1 mn).2, none⟩ := by rw [keep 3 (by decide), a4]
    have m4 : h3 4 = some ⟨0, 1, fl ic s0, none⟩ := by rw [keep 4 (by decide), a5 4 (by omega) (by decide), hP.h4]
    have m5 : h3 5 = some ⟨0, 0, [.sl 3 0 0 f.1.length none, .sl 4 0 0 s0.length none], none⟩ := by rw [keep 5 (by decide), a5 5 (by omega) (by decide), h5]
    have w1 : IntKind.i64.wrap ((frm : Int) + (mn : Int)) = ((frm + mn : Nat) : Int) := by rw [w_i64 (by omega) (by omega)]; omega
    have c0 : ¬ ((f.1.length : Int) = 0) := by omega
    have c0' : ¬ f.1 = [] := fun e => by rw [e] at fl1; simp at fl1; omega
    have w2 : ((frm + mn : Nat) : Int).tmod (f.1.length : Int) = (((frm + mn) % c.length : Nat) : Int) := by rw [fl1, r2, Int.tmod_eq_emod_of_nonneg (by omega)]; omega
    generalize (frm + mn) % c.length = fm at *
    generalize frm + mn = fs at *
    simp -dsimp [hP.t10, hP.t5, hP.t12, m1, m5, w1, w2, c0, c0', i14, hM]
    refine ⟨j1, by simp -dsimp [hP.t2], by simp -dsimp [hP.t3], by simp -dsimp [hP.t5], by simp -dsimp [hP.t8], by simp -dsimp [hP.t10], by simp -dsimp, by simp -dsimp [hP.t13], by simp -dsimp [b1], fun j hj => ?_, by simp -dsimp; omega, by simp -dsimp [m1], by simp -dsimp [m2], by simp -dsimp [m3], by simp -dsimp [m4], by simp -dsimp [m5]; omega, hP.drop, hP.jl⟩
    simp at hj
    rcases b4 j hj with q | q
    · exact own10 j q
    · omega
end Go.Proofs.P3
