/- Flips, and rounds: in plain lists, and as the program does it. -/
import Derived.Test.YtjldiihndmkpfaaP3g
set_option linter.unusedVariables false
set_option linter.unusedSimpArgs false
set_option maxRecDepth 10000
set_option maxHeartbeats 4000000
namespace Go.Proofs.P3
open Go.Ex
def flip1 (c : List Int) (x : Flip) : List Int := c.set x.2.1.toNat (xorI (lAt c x.2.1.toNat) x.2.2)
/-- The flips up to a moment come. -/
def flipTo (t : Int) : List Int → List Flip → List Int × List Flip
  | c, [] => (c, [])
  | c, x :: l => if x.1 ≤ t then flipTo t (flip1 c x) l else (c, x :: l)
theorem flip1_len (c : List Int) (x : Flip) : (flip1 c x).length = c.length := by simp [flip1]
theorem flip1_in {c : List Int} {x : Flip} (hc : ∀ y ∈ c, inC y) (hx : FlipOk c.length x) : ∀ y ∈ flip1 c x, inC y :=
  set_in hc (xorI_in (lAt_in hc (by have := hx.p0; have := hx.p1; omega)) hx.b0 hx.b1) _
theorem flipTo_len (t : Int) : ∀ (l : List Flip) (c : List Int), (flipTo t c l).1.length = c.length
  | [], c => rfl
  | x :: l, c => by
    unfold flipTo
    split
    · rw [flipTo_len t l, flip1_len]
    · rfl
theorem flipTo_in (t : Int) : ∀ (l : List Flip) (c : List Int), (∀ y ∈ c, inC y) → (∀ x ∈ l, FlipOk c.length x) → ∀ y ∈ (flipTo t c l).1, inC y
  | [], c, hc, _ => hc
  | x :: l, c, hc, hl => by
    unfold flipTo
    split
    · exact flipTo_in t l _ (flip1_in hc (hl x (by simp))) (fun y hy => by rw [flip1_len]; exact hl y (by simp [hy]))
    · exact hc
theorem flipTo_suffix (t : Int) : ∀ (l : List Flip) (c : List Int), ∃ p, l = p ++ (flipTo t c l).2
  | [], c => ⟨[], rfl⟩
  | x :: l, c => by
    unfold flipTo
    split
    · obtain ⟨p, hp⟩ := flipTo_suffix t l (flip1 c x)
      exact ⟨x :: p, by rw [List.cons_append, ← hp]⟩
    · exact ⟨[], rfl⟩
theorem flipTo_mem {t : Int} {l : List Flip} {c : List Int} {x : Flip} (h : x ∈ (flipTo t c l).2) : x ∈ l := by
  obtain ⟨p, hp⟩ := flipTo_suffix t l c
  rw [hp]
  exact List.mem_append_right _ h
structure FlipQ (h : Hp) (nx lb idc ver : Nat) (f : List Int × List Flip) (v : V) (h' : Hp) (nx' : Nat) : Prop where
  v : v = .tup []
  nx : nx' = nx
  l : h' lb = some ⟨0, 0, [rF f.2], none⟩
  c : h' idc = some ⟨ver, 1, fl ic f.1, none⟩
  rest : ∀ j, j ≠ lb → j ≠ idc → h' j = h j
theorem bitI_ok {n : Int} (h1 : 1 ≤ n) (h2 : n ≤ 22) : OkF Try.prog 99 [.int .i64 n] (.int .i64 ((bt n.toNat : Nat) : Int), []) := by
  have := bit_ok (n := n.toNat) (by omega) (by omega)
  rwa [Int.toNat_of_nonneg (by omega)] at this
theorem flip_ex {h : Hp} {nx lb bb idc ver : Nat} {to : Int} {c : List Int} {l : List Flip} {sv : V} (d1 : lb ≠ bb) (d2 : lb ≠ idc) (d3 : bb ≠ idc) (hlb : h lb = some ⟨0, 0, [rF l], none⟩) (hbb : h bb = some ⟨0, 0, [.sl idc ver 0 c.length none, sv], none⟩)
    (hid : h idc = some ⟨ver, 1, fl ic c, none⟩) (hc : ∀ y ∈ c, inC y) (hl : ∀ x ∈ l, FlipOk c.length x) (hc2 : c.length ≤ 2000) (hl2 : l.length ≤ 2000) :
    SEx Try.prog 126 [.int .i64 to, .pt lb 0 0, .pt bb 0 0] h nx (FlipQ h nx lb idc ver (flipTo to c l)) := by
  refine SEx.of hm h126 (of_decide_eq_true rfl) ?_
  unfold c126
  simp -dsimp
  refine loop_dec (fun n t => ∃ (c1 : List Int) (l1 : List Flip), l1.length = n ∧ t.t 0 = .int .i64 to ∧ t.t 1 = .pt lb 0 0 ∧ t.t 2 = .pt bb 0 0 ∧ t.nx = nx ∧ t.h lb = some ⟨0, 0, [rF l1], none⟩ ∧ t.h bb = some ⟨0, 0, [.sl idc ver 0 c.length none, sv], none⟩ ∧ t.h idc = some ⟨ver, 1, fl ic c1, none⟩ ∧ (∀ j, j ≠ lb → j ≠ idc → t.h j = h j) ∧ flipTo to c1 l1 = flipTo to c l ∧ c1.length = c.length ∧ (∀ y ∈ c1, inC y) ∧ (∀ x ∈ l1, FlipOk c.length x) ∧ l1.length ≤ 2000) l.length ⟨c, l, rfl, by simp -dsimp, by simp -dsimp, by simp -dsimp, rfl, hlb, hbb, hid, fun _ _ _ => rfl, rfl, rfl, hc, hl, hl2⟩ (fun n t hI => ?_)
  obtain ⟨c1, l1, hn, i0, i1, i2, inx, hlb, hbb, hid, hrest, heq, hlen, hc, hl, hl2⟩ := hI
  unfold l126_0
  cases l1 with
  | nil =>
    simp only [flipTo] at heq
    simp -dsimp [i0, i1, i2, hlb]
    exact ⟨rfl, inx, by rw [← heq]; exact hlb, by rw [← heq]; exact hid, hrest⟩
  | cons x l2 =>
    have hx := hl x (by simp)
    have hxp := hx.p0; have hxp1 := hx.p1
    have hl' : ∀ y ∈ l2, FlipOk c.length y := fun y hy => hl y (by simp [hy])
    have hfl : flipTo to c1 (x :: l2) = if x.1 ≤ to then flipTo to (flip1 c1 x) l2 else (c1, x :: l2) := rfl
    have hg : (x :: l2)[0]? = some x := rfl
    have hdr : (x :: l2).drop 1 = l2 := rfl
    have hml : (x :: l2).length = l2.length + 1 := rfl
    generalize x :: l2 = m at *
    have h0 : (0 : Int) < (m.length : Int) := by omega
    have h0n : 0 < m.length := by omega
    have h0' : ¬ m = [] := fun e => by subst e; simp at hg
    have f0 : ∀ K, iaddrK t.h (.ro m.length (fl flipCd m)) (.int .i64 0) 3 K ⟨⟩ = K (.rp (fl flipCd m) 0) [] := fun K => by
      have := f_ia (h := t.h) (kk := .i64) (K := K) hg
      rwa [Nat.zero_mul] at this
    have f1 := f_l0 (h := t.h) hg
    have f2 := f_l1 (h := t.h) hg
    have f3 := f_l2 (h := t.h) hg
    rw [Nat.zero_mul] at f1 f2 f3
    rw [Nat.zero_add] at f2 f3
    by_cases q : x.1 ≤ to
    · rw [if_pos q] at hfl
      simp -dsimp [i0, i1, i2, hlb, h0, h0', h0n, f0, f1, q]
      obtain ⟨p, hp⟩ : ∃ p : Nat, x.2.1 = p := ⟨x.2.1.toNat, by omega⟩
      have hpc : p < c1.length := by omega
      have hin := lAt_in hc hpc
      have eia : ∀ K, iaddrK t.h (.sl idc ver 0 c.length none) (.int .i64 p) 1 K ⟨⟩ = K (.pt idc ver p) [idc] := fun K => by rw [← hlen]; exact own_ia hid hpc
      have eld := own_ld hid hpc
      have hxo := A_xorI hin hx.b0 hx.b1
      have hset : c1.set p (xorI (lAt c1 p) x.2.2) = flip1 c1 x := by unfold flip1; rw [hp]; rfl
      have hlen1 := own_len (c := c1)
      have hpc1 : p + 1 ≤ c1.length := hpc
      simp -dsimp [f0, f2, f3, hp, hbb, hlb, eia, eld, i1, i2]
      refine call_pure (bitI_ok hx.b0 hx.b1) (by simp) (by simp) ?_
      have hsl := slc_ro_lo (d := flipCd) (esz := 3) (kk := .i64) (l := m) (n := 1) rfl (by omega)
      rw [hdr] at hsl
      have e1 : ∀ (K : V → Hp → Nat → Option (List Nat) → Option (List Nat) → Prop), ∀ h nx, slcK false (.ro m.length (fl flipCd m)) (some (.int .i64 1)) none 3 h nx K ⟨⟩ = K (rF l2) h nx (some []) (some []) := fun K h nx => slcK_ro (v := rF l2) hsl
      have ndb : ¬ bb = idc := d3
      have ndl : ¬ lb = idc := d2
      have ndi : ¬ idc = lb := fun e => d2 e.symm
      have nd1 : ¬ bb = lb := fun e => d1 e.symm
      simp -dsimp [eia, -i_xor, hxo, hid, hlen1, hpc1, own_set, hset, i1, i0, i2, ndb, ndl, ndi, nd1, hlb, hbb, e1]
      refine ⟨l2.length, by omega, flip1 c1 x, l2, rfl, ?_⟩
      exact ⟨inx, ⟨rfl, rfl⟩, rfl, fun j h1 h2 => by rw [if_neg h1, if_neg h2]; exact hrest j h1 h2, by rw [← hfl]; exact heq, by rw [flip1_len]; exact hlen, flip1_in hc (by rw [hlen]; exact hx), fun _ _ _ h => hl' _ h, by omega⟩
    · rw [if_neg q] at hfl
      simp -dsimp [i0, i1, i2, hlb, h0, h0', h0n, f0, f1, q]
      rw [hfl] at heq
      exact ⟨rfl, inx, by rw [← heq]; exact hlb, by rw [← heq]; exact hid, hrest⟩
/-- Rounds, after the first k: what was told, the codes, from where the next one goes, the flips that are left. -/
def rnd (ev mn : Nat) (c : List Int) (l : List Flip) : Nat → List Scrub × List Int × Nat × List Flip
  | 0 => ([], c, 0, l)
  | k + 1 => ((rnd ev mn c l k).1 ++ (scr (rnd ev mn c l k).2.2.1 (((k + 1) * ev : Nat) : Int) (flipTo (((k + 1) * ev : Nat) : Int) (rnd ev mn c l k).2.1 (rnd ev mn c l k).2.2.2).1 mn).1,
      (scr (rnd ev mn c l k).2.2.1 (((k + 1) * ev : Nat) : Int) (flipTo (((k + 1) * ev : Nat) : Int) (rnd ev mn c l k).2.1 (rnd ev mn c l k).2.2.2).1 mn).2,
      ((rnd ev mn c l k).2.2.1 + mn) % c.length, (flipTo (((k + 1) * ev : Nat) : Int) (rnd ev mn c l k).2.1 (rnd ev mn c l k).2.2.2).2)
structure RndOk (mn : Nat) (c : List Int) (l : List Flip) (k : Nat) (s : List Scrub × List Int × Nat × List Flip) : Prop where
  out : s.1.length ≤ k * mn
  len : s.2.1.length = c.length
  cin : ∀ x ∈ s.2.1, inC x
  frm : s.2.2.1 < c.length
  lok : ∀ x ∈ s.2.2.2, FlipOk c.length x
  l2 : s.2.2.2.length ≤ l.length
theorem rnd_ok {ev mn : Nat} {c : List Int} {l : List Flip} (h0 : 0 < c.length) (hc : ∀ x ∈ c, inC x) (hl : ∀ x ∈ l, FlipOk c.length x) : ∀ k, RndOk mn c l k (rnd ev mn c l k)
  | 0 => ⟨by simp [rnd], rfl, hc, h0, hl, Nat.le_refl _⟩
  | k + 1 => by
    have ih := rnd_ok (ev := ev) (mn := mn) h0 hc hl k
    unfold rnd
    generalize rnd ev mn c l k = s at ih
    obtain ⟨out, cc, frm, rest⟩ := s
    obtain ⟨i1, i2, i3, i4, i5, i6⟩ := ih
    simp only at *
    have fl := flipTo_len (((k + 1) * ev : Nat) : Int) rest cc
    have fi := flipTo_in (((k + 1) * ev : Nat) : Int) rest cc i3 (by rw [i2]; exact i5)
    have fm := fun x => @flipTo_mem (((k + 1) * ev : Nat) : Int) rest cc x
    obtain ⟨p, hp⟩ := flipTo_suffix (((k + 1) * ev : Nat) : Int) rest cc
    have hpl := congrArg List.length hp
    rw [List.length_append] at hpl
    generalize flipTo (((k + 1) * ev : Nat) : Int) cc rest = f at *
    have sl := scr_len frm (((k + 1) * ev : Nat) : Int) f.1 mn
    have si := scr_in (frm := frm) (moment := (((k + 1) * ev : Nat) : Int)) (c := f.1) (by omega) fi mn
    refine ⟨?_, by rw [sl.1]; omega, si, Nat.mod_lt _ h0, fun x hx => i5 x (fm x hx), by simp only; omega⟩
    simp only [List.length_append]
    have e := Nat.succ_mul k mn
    simp only [Nat.succ_eq_add_one] at e
    omega
/-- What there is at a moment: the codes, and what was told. -/
def liveS (ev mn : Nat) (c : List Int) (l : List Flip) (u : Nat) : List Int × List Scrub :=
  ((flipTo (u : Int) (rnd ev mn c l (u / ev)).2.1 (rnd ev mn c l (u / ev)).2.2.2).1, (rnd ev mn c l (u / ev)).1)
theorem flip_body : hasBody Try.prog 126 = true := by kernel_rfl
structure LI (b : Bank) (ev mn u : Nat) (s : List Scrub × List Int × Nat × List Flip) (t : St) : Prop where
  t3 : t.t 3 = .int .i64 u
  t4 : t.t 4 = .pt 0 0 0
  t5 : t.t 5 = .pt 1 0 0
  t8 : t.t 8 = .pt 3 0 0
  t11 : t.t 11 = .fn 126 [.pt 2 0 0, .pt 0 0 0]
  t12 : t.t 12 = .int .i64 s.2.2.1
  acc : Acc scrCd t.h t.nx (t.t 10) s.1
  own : ∀ j, ownOf (t.t 10) = some j → 6 ≤ j
  nx : 6 ≤ t.nx
  h0 : t.h 0 = some ⟨0, 0, [.sl 4 0 0 b.1.length none, .sl 5 0 0 b.2.length none], none⟩
  h1 : t.h 1 = some ⟨0, 0, [.int .i64 ev, .int .i64 mn], none⟩
  h2 : t.h 2 = some ⟨0, 0, [rF s.2.2.2], none⟩
  h3 : t.h 3 = some ⟨0, 0, [.ns, .ns], none⟩
  h4 : t.h 4 = some ⟨0, 1, fl ic s.2.1, none⟩
  h5 : t.h 5 = some ⟨0, 1, fl ic b.2, none⟩
theorem live_ok (b : Bank) (ev mn u : Nat) (l : List Flip) (hb : BankOk b) (hl : ∀ x ∈ l, FlipOk b.1.length x) (hl2 : l.length ≤ 2000) (he : 1 ≤ ev) (he2 : ev ≤ 1000000000000) (hmn : mn ≤ 5000) (hu : u ≤ 1000000000000) (hw : u / ev * mn ≤ 1000000) :
    OkF Try.prog 90 [bkV b, rdV (ev, mn), rF l, .int .i64 u] (.tup [bkV ((liveS ev mn b.1 l u).1, b.2), rS (liveS ev mn b.1 l u).2], []) := by
  obtain ⟨c, s0⟩ := b
  have hpos := hb.pos; have hmost := hb.most
  simp only at hpos hmost hl
  have hR := rnd_ok (ev := ev) (mn := mn) (l := l) hpos hb.c hl
  refine OkF.G0 hm h90 (of_decide_eq_true rfl) ?_
  unfold c90
  simp -dsimp
  refine call_own (copied_ok (c, s0) hb) ?_ ?_
  · exact okRes_of (by simp)
  simp -dsimp [cpR, addB]
  have ev0 : ¬ (ev : Int) = 0 := by omega
  have ev1 : ¬ ev = 0 := by omega
  have hdv : (u : Int).tdiv (ev : Int) = ((u / ev : Nat) : Int) := by rw [Int.tdiv_eq_ediv_of_nonneg (by omega)]; omega
  have hdl : u / ev ≤ u := Nat.div_le_self _ _
  have hLS : liveS ev mn c l u = ((flipTo (u : Int) (rnd ev mn c l (u / ev)).2.1 (rnd ev mn c l (u / ev)).2.2.2).1, (rnd ev mn c l (u / ev)).1) := rfl
  have hmulle : u / ev * ev ≤ u := Nat.div_mul_le_self u ev
  generalize u / ev = N at *
  have hwd : IntKind.i64.wrap (N : Int) = (N : Int) := w_i64 (by omega) (by omega)
  refine loop_left N (fun n t => LI (c, s0) ev mn u (rnd ev mn c l (N - n)) t ∧ t.t 13 = .int .i64 ((N - n + 1 : Nat) : Int)) ?_ (fun t hI => ?_) (fun n t hn hI => ?_)
  · rw [Nat.sub_self]
    refine ⟨⟨by simp -dsimp, by simp -dsimp, by simp -dsimp, by simp -dsimp, by simp -dsimp, by simp -dsimp [rnd], by simp -dsimp [rnd, Acc.nil], fun j hj => by simp [ownOf] at hj, by simp -dsimp, by simp -dsimp, by simp -dsimp, by simp -dsimp [rnd], by simp -dsimp, by simp -dsimp [rnd], by simp -dsimp⟩, by simp -dsimp⟩
  · obtain ⟨hI, i13⟩ := hI
    rw [Nat.sub_zero] at hI i13
    have hRN := hR N
    generalize rnd ev mn c l N = s at *
    obtain ⟨out, cc, frm, rest⟩ := s
    obtain ⟨N1, hN1⟩ : ∃ N1, N + 1 = N1 := ⟨_, rfl⟩
    rw [hN1] at i13
    have hlt : ¬ N1 ≤ N := by omega
    have hlt' : ¬ (N1 : Int) ≤ (N : Int) := by omega
    unfold l90_0
    simp -dsimp [hI.t3, hI.t4, hI.t5, hI.t8, hI.t11, hI.h1, i13, hdv, ev0, ev1, hwd, hlt, hlt']
    have hcl := hRN.len
    simp only at hcl
    have hfx := (flip_ex (to := (u : Int)) (nx := t.nx) (lb := 2) (bb := 0) (c := cc) (l := rest) (idc := 4) (ver := 0) (sv := .sl 5 0 0 s0.length none) (by decide) (by decide) (by decide) hI.h2 (by rw [hcl]; exact hI.h0) hI.h4 hRN.cin (by rw [hcl]; exact hRN.lok) (by omega) (by have := hRN.l2; simp only at this; omega))
    refine calv_ex (Q := FlipQ t.h t.nx 2 4 0 (flipTo (u : Int) cc rest)) flip_body ?_ ?_
    · exact hfx
    rintro v h' nx' ⟨rfl, rfl, g1, g2, g3⟩
    have n0 : h' 0 = some ⟨0, 0, [.sl 4 0 0 c.length none, .sl 5 0 0 s0.length none], none⟩ := by rw [g3 0 (by decide) (by decide)]; exact hI.h0
    have n3 : h' 3 = some ⟨0, 0, [.ns, .ns], none⟩ := by rw [g3 3 (by decide) (by decide)]; exact hI.h3
    have n5 : h' 5 = some ⟨0, 1, fl ic s0, none⟩ := by rw [g3 5 (by decide) (by decide)]; exact hI.h5
    simp -dsimp [hI.t4, hI.t8, n0, n3]
    have hA : Acc scrCd (upd h' 3 (some ⟨0, 0, [.sl 4 0 0 c.length none, .sl 5 0 0 s0.length none], none⟩)) t.nx (t.t 10) out := hI.acc.keep (Nat.le_refl _) fun j hj ho => by
      have := hI.own j ho
      simp only [upd]
      rw [if_neg (by omega), g3 j (by omega) (by omega)]
    have hX := hA.ex1
    have fl1 := flipTo_len (u : Int) rest cc
    have c5 : ∀ n, expC (upd h' 3 (some ⟨0, 0, [.sl 4 0 0 c.length none, .sl 5 0 0 s0.length none], none⟩)) [] (n + 1) (.sl 4 0 0 c.length none) = some (rI (flipTo (u : Int) cc rest).1) := fun n => by
      have := (Acc.mk (d := ic) (l := (flipTo (u : Int) cc rest).1) (h := upd h' 3 (some ⟨0, 0, [.sl 4 0 0 c.length none, .sl 5 0 0 s0.length none], none⟩)) (nx := 6) (id := 4) (ver := 0) (cap := none) (by omega) (by simp [g2])).exC (n := n)
      rw [fl1, hcl] at this
      rw [this]
      show _ = some (V.ro _ _)
      rw [fl1, hcl]
    have c6 : ∀ n, expC (upd h' 3 (some ⟨0, 0, [.sl 4 0 0 c.length none, .sl 5 0 0 s0.length none], none⟩)) [] (n + 1) (.sl 5 0 0 s0.length none) = some (rI s0) := fun n =>
      (Acc.mk (d := ic) (l := s0) (h := upd h' 3 (some ⟨0, 0, [.sl 4 0 0 c.length none, .sl 5 0 0 s0.length none], none⟩)) (nx := 6) (id := 5) (ver := 0) (cap := none) (by omega) (by simp [n5])).exC (n := n)
    simp [hLS, c5 7, c6 7, hX]
  · obtain ⟨hI, i13⟩ := hI
    obtain ⟨k, hk⟩ : ∃ k, N - (n + 1) = k := ⟨_, rfl⟩
    have hk1 : N - n = k + 1 := by omega
    rw [hk] at hI i13
    rw [hk1]
    have hkN : k + 1 ≤ N := by omega
    have hkev : (k + 1) * ev ≤ u := Nat.le_trans (Nat.mul_le_mul_right _ hkN) hmulle
    have hkmn : (k + 1) * mn ≤ 1000000 := Nat.le_trans (Nat.mul_le_mul_right _ hkN) hw
    have hRk := hR k
    have hS : rnd ev mn c l (k + 1) = ((rnd ev mn c l k).1 ++ (scr (rnd ev mn c l k).2.2.1 (((k + 1) * ev : Nat) : Int) (flipTo (((k + 1) * ev : Nat) : Int) (rnd ev mn c l k).2.1 (rnd ev mn c l k).2.2.2).1 mn).1,
      (scr (rnd ev mn c l k).2.2.1 (((k + 1) * ev : Nat) : Int) (flipTo (((k + 1) * ev : Nat) : Int) (rnd ev mn c l k).2.1 (rnd ev mn c l k).2.2.2).1 mn).2,
      ((rnd ev mn c l k).2.2.1 + mn) % c.length, (flipTo (((k + 1) * ev : Nat) : Int) (rnd ev mn c l k).2.1 (rnd ev mn c l k).2.2.2).2) := rfl
    rw [hS]
    generalize rnd ev mn c l k = s at *
    obtain ⟨out, cc, frm, rest⟩ := s
    simp only at *
    obtain ⟨r1, r2, r3, r4, r5, r6⟩ := hRk
    simp only at r1 r2 r3 r4 r5 r6
    have hmul : IntKind.i64.wrap (((k + 1 : Nat) : Int) * (ev : Int)) = (((k + 1) * ev : Nat) : Int) := by
      rw [← Int.natCast_mul]
      exact w_i64 (by omega) (by omega)
    have hle : (((k + 1 : Nat) : Int) ≤ ((N : Nat) : Int)) := by omega
    have hle' : k + 1 ≤ N := by omega
    have hk2 : IntKind.i64.wrap (((k + 1 : Nat) : Int) + 1) = ((k + 1 + 1 : Nat) : Int) := by rw [w_i64 (by omega) (by omega)]; omega
    rw [Nat.add_mul] at hkmn
    generalize hK : k + 1 = K at *
    generalize hM : K * ev = M at *
    unfold l90_0
    simp -dsimp [hI.t3, hI.t4, hI.t5, hI.t8, hI.t11, hI.h1, i13, hdv, ev0, ev1, hwd, hle, hle', hmul]
    have hfx := (flip_ex (to := (M : Int)) (nx := t.nx) (lb := 2) (bb := 0) (c := cc) (l := rest) (idc := 4) (ver := 0) (sv := .sl 5 0 0 s0.length none) (by decide) (by decide) (by decide) hI.h2 (by rw [r2]; exact hI.h0) hI.h4 r3 (by rw [r2]; exact r5) (by omega) (by omega))
    refine calv_ex (Q := FlipQ t.h t.nx 2 4 0 (flipTo (M : Int) cc rest)) flip_body ?_ ?_
    · exact hfx
    rintro v h' nx' ⟨rfl, rfl, g1, g2, g3⟩
    have fl1 := flipTo_len (M : Int) rest cc
    have fi := flipTo_in (M : Int) rest cc r3 (by rw [r2]; exact r5)
    generalize flipTo (M : Int) cc rest = f at *
    have n0 : h' 0 = some ⟨0, 0, [.sl 4 0 0 f.1.length none, .sl 5 0 0 s0.length none], none⟩ := by rw [g3 0 (by decide) (by decide), hI.h0, fl1, r2]
    have n1 : h' 1 = some ⟨0, 0, [.int .i64 ev, .int .i64 mn], none⟩ := by rw [g3 1 (by decide) (by decide)]; exact hI.h1
    have n3 : h' 3 = some ⟨0, 0, [.ns, .ns], none⟩ := by rw [g3 3 (by decide) (by decide)]; exact hI.h3
    have n5 : h' 5 = some ⟨0, 1, fl ic s0, none⟩ := by rw [g3 5 (by decide) (by decide)]; exact hI.h5
    have hnx := hI.nx
    simp -dsimp [hI.t4, hI.t5, hI.t12, n0, n1, hmul, i13]
    refine shr_ex (scrub_ex (c := f.1) (idc := 4) (ver := 0) (by omega) g2 (by omega) (by omega) fi (by omega) hmn) ?_
    rintro v2 h2 nx2 ⟨a1, a2, a3, a4, a5⟩
    have sl := scr_len frm (M : Int) f.1 mn
    have hA : Acc scrCd h2 nx2 (t.t 10) out := hI.acc.keep (by omega) fun j hj ho => by
      have := hI.own j ho
      rw [a5 j hj (by omega), g3 j (by omega) (by omega)]
    have hsrc := a1.src
    rw [show scrCd.sz = 4 from rfl] at hsrc
    simp -dsimp [hsrc]
    refine app_acc (d := scrCd) (l' := (scr frm (M : Int) f.1 mn).1) hA rfl rfl (by omega) (by omega) fun v3 h3 nx3 b1 b2 b3 b4 => ?_
    have own10 : ∀ j, ownOf (t.t 10) = some j → 6 ≤ j := hI.own
    have keep : ∀ j, j < 6 → h3 j = h2 j := fun j hj => b3 j (by omega) (fun e => by have := own10 j e; omega)
    have m0 : h3 0 = some ⟨0, 0, [.sl 4 0 0 f.1.length none, .sl 5 0 0 s0.length none], none⟩ := by rw [keep 0 (by decide), a5 0 (by omega) (by decide), n0]
    have m1 : h3 1 = some ⟨0, 0, [.int .i64 ev, .int .i64 mn], none⟩ := by rw [keep 1 (by decide), a5 1 (by omega) (by decide), n1]
    have m2 : h3 2 = some ⟨0, 0, [rF f.2], none⟩ := by rw [keep 2 (by decide), a5 2 (by omega) (by decide), g1]
    have m3 : h3 3 = some ⟨0, 0, [.ns, .ns], none⟩ := by rw [keep 3 (by decide), a5 3 (by omega) (by decide), n3]
    have m4 : h3 4 = some ⟨0, 1, fl ic (scr frm (M : Int) f.1 mn).2, none⟩ := by rw [keep 4 (by decide), a4]
    have m5 : h3 5 = some ⟨0, 1, fl ic s0, none⟩ := by rw [keep 5 (by decide), a5 5 (by omega) (by decide), n5]
    have w1 : IntKind.i64.wrap ((frm : Int) + (mn : Int)) = ((frm + mn : Nat) : Int) := by rw [w_i64 (by omega) (by omega)]; omega
    have c0 : ¬ ((f.1.length : Int) = 0) := by omega
    have c0' : ¬ f.1 = [] := fun e => by rw [e] at fl1; simp at fl1; omega
    have w2 : ((frm + mn : Nat) : Int).tmod (f.1.length : Int) = (((frm + mn) % c.length : Nat) : Int) := by rw [fl1, r2, Int.tmod_eq_emod_of_nonneg (by omega)]; omega
    generalize (frm + mn) % c.length = fm at *
    generalize frm + mn = fs at *
    simp -dsimp [hI.t4, hI.t5, hI.t12, m0, m1, w1, w2, c0, c0', i13, hk2]
    refine ⟨by simp -dsimp [hI.t3], by simp -dsimp [hI.t4], by simp -dsimp [hI.t5], by simp -dsimp [hI.t8], by simp -dsimp [hI.t11], by simp -dsimp, by simp -dsimp [b1], fun j hj => ?_, by simp -dsimp; omega, by simp -dsimp [m0]; omega, by simp -dsimp [m1], by simp -dsimp [m2], by simp -dsimp [m3], by simp -dsimp [m4], by simp -dsimp [m5]⟩
    simp at hj
    rcases b4 j hj with q | q
    · exact own10 j q
    · omega
end Go.Proofs.P3
