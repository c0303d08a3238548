/- Operations on numbers that are not below 0, as natural numbers; loops that count from any number. -/
import Derived.Test.YtaegjihmpgdfcaaExW
import Derived.Laws.BitsAllLaws
set_option linter.unusedVariables false
set_option linter.unusedSimpArgs false
namespace Go.Ex
variable {P : Program}
theorem w_i64 {n : Int} (h1 : -9223372036854775808 ≤ n) (h2 : n ≤ 9223372036854775807) : IntKind.i64.wrap n = n := by rw [IntKind.wrap_i64]; omega
theorem w_u64 {n : Int} (h1 : 0 ≤ n) (h2 : n < 18446744073709551616) : IntKind.u64.wrap n = n := by rw [IntKind.wrap_u64]; omega
theorem w_i64N (n : Int) (h1 : 0 ≤ n) (h2 : n < 2 ^ 62) : IntKind.i64.wrap n = n := w_i64 (by omega) (by omega)
theorem A_and {a b : Nat} (ha : a < 2 ^ 62) (hb : b < 2 ^ 62) : binA .and (.int .i64 (a : Int)) (.int .i64 (b : Int)) = some (.int .i64 ((a &&& b : Nat) : Int)) := by
  rw [i_and]
  exact congrArg (fun x => some (V.int .i64 x)) (bits_nat .i64 62 (by decide) w_i64N a b ha hb).1
theorem A_or {a b : Nat} (ha : a < 2 ^ 62) (hb : b < 2 ^ 62) : binA .or (.int .i64 (a : Int)) (.int .i64 (b : Int)) = some (.int .i64 ((a ||| b : Nat) : Int)) := by
  rw [i_or]
  exact congrArg (fun x => some (V.int .i64 x)) (bits_nat .i64 62 (by decide) w_i64N a b ha hb).2
theorem A_xor {a b : Nat} (ha : a < 2 ^ 62) (hb : b < 2 ^ 62) : binA .xor (.int .i64 (a : Int)) (.int .i64 (b : Int)) = some (.int .i64 ((a ^^^ b : Nat) : Int)) := by
  rw [i_xor]
  refine congrArg (fun x => some (V.int .i64 x)) ?_
  have hx : a ^^^ b < 2 ^ 62 := Nat.xor_lt_two_pow ha hb
  have h1 : (BitVec.ofInt 64 (a : Int)).toNat = a := by
    rw [BitVec.ofInt_natCast, BitVec.toNat_ofNat]; exact Nat.mod_eq_of_lt (by omega)
  have h2 : (BitVec.ofInt 64 (b : Int)).toNat = b := by
    rw [BitVec.ofInt_natCast, BitVec.toNat_ofNat]; exact Nat.mod_eq_of_lt (by omega)
  show IntKind.i64.wrap ((BitVec.ofInt 64 (a : Int) ^^^ BitVec.ofInt 64 (b : Int)).toNat : Int) = _
  rw [BitVec.toNat_xor, h1, h2]
  exact w_i64 (by omega) (by omega)
theorem A_one {a : Nat} (ha : a < 2 ^ 62) : binA .and (.int .i64 (a : Int)) (.int .i64 1) = some (.int .i64 ((a % 2 : Nat) : Int)) := by
  have h := A_and (a := a) (b := 1) ha (by decide)
  rw [Nat.and_one_is_mod] at h
  exact h
theorem pow_cast (j : Nat) : ((2 ^ j : Nat) : Int) = 2 ^ j := by simp
theorem A_shl1 {k : IntKind} {j : Nat} (h : j ≤ 61) : binA .shl (.int .i64 1) (.int k (j : Int)) = some (.int .i64 ((2 ^ j : Nat) : Int)) := by
  have h2 : (2 : Nat) ^ j < 2 ^ 62 := Nat.pow_lt_pow_right (by decide) (by omega)
  rw [i_shl, if_neg (by omega), Int.toNat_natCast, Nat.min_eq_left (by simp only [IntKind.bits]; omega), Int.one_mul, ← pow_cast]
  generalize 2 ^ j = m at h2 ⊢
  rw [w_i64 (by omega) (by omega)]
theorem A_shr {k : IntKind} {a j : Nat} (h : j ≤ 61) : binA .shr (.int .i64 (a : Int)) (.int k (j : Int)) = some (.int .i64 ((a / 2 ^ j : Nat) : Int)) := by
  rw [i_shr, if_neg (by omega), Int.toNat_natCast, Nat.min_eq_left (by simp only [IntKind.bits]; omega), Int.fdiv_eq_ediv_of_nonneg _ (by rw [← pow_cast]; exact Int.natCast_nonneg _), ← pow_cast, ← Int.natCast_ediv]
theorem B_and {a b : Nat} (ha : a < 2 ^ 63) (hb : b < 2 ^ 63) : binA .and (.int .u64 (a : Int)) (.int .u64 (b : Int)) = some (.int .u64 ((a &&& b : Nat) : Int)) := by
  rw [i_and]
  exact congrArg (fun x => some (V.int .u64 x)) (u64_and_nat a b (by omega) (by omega))
theorem B_add {a b : Nat} (ha : a + b < 2 ^ 63) : binA .add (.int .u64 (a : Int)) (.int .u64 (b : Int)) = some (.int .u64 ((a + b : Nat) : Int)) := by
  rw [i_add, w_u64 (by omega) (by omega), Int.natCast_add]
theorem B_shr {k : IntKind} {a j : Nat} (h : j ≤ 61) : binA .shr (.int .u64 (a : Int)) (.int k (j : Int)) = some (.int .u64 ((a / 2 ^ j : Nat) : Int)) := by
  rw [i_shr, if_neg (by omega), Int.toNat_natCast, Nat.min_eq_left (by simp only [IntKind.bits]; omega), Int.fdiv_eq_ediv_of_nonneg _ (by rw [← pow_cast]; exact Int.natCast_nonneg _), ← pow_cast, ← Int.natCast_ediv]
theorem bit_zero {c j : Nat} : (c &&& 2 ^ j = 0) ↔ c.testBit j = false := by
  rw [nat_bit, Nat.testBit_eq_decide_div_mod_eq]
  have h3 : 0 < 2 ^ j := Nat.two_pow_pos j
  rcases Nat.mod_two_eq_zero_or_one (c / 2 ^ j) with h | h
  · rw [h]; simp
  · rw [h, Nat.one_mul]
    generalize 2 ^ j = m at h3 ⊢
    simp
    omega
/-- A loop that counts N rounds, by what is left. -/
theorem loop_left {C : Cmd} {Q : E → St → Prop} {s : St} (N : Nat) (I : Nat → St → Prop) (h0 : I N s)
    (hend : ∀ s, I 0 s → W P C (fun e s' => seqK (fun _ => False) Q e s' ⟨⟩ ⟨⟩) s ⟨⟩ ⟨⟩)
    (hr : ∀ (n : Nat) (s : St), n < N → I (n + 1) s → W P C (fun e s' => seqK (fun s' => I n s') Q e s' ⟨⟩ ⟨⟩) s ⟨⟩ ⟨⟩) : LP P C Q s ⟨⟩ ⟨⟩ := by
  refine loop_dec (fun n s => n ≤ N ∧ I n s) N ⟨Nat.le_refl _, h0⟩ (fun n s ⟨hn, hI⟩ => ?_)
  cases n with
  | zero =>
    refine wpA_mono C (fun e s' he => ?_) (hend s hI)
    cases e with
    | norm => exact he.elim
    | exit j => exact he
    | ret => exact he
  | succ n =>
    refine wpA_mono C (fun e s' he => ?_) (hr n s (by omega) hI)
    cases e with
    | norm => exact ⟨n, by omega, by omega, he⟩
    | exit j => exact he
    | ret => exact he
@[simp] theorem disj_cc {a b : Nat} {l m : List Nat} : disj (some (a :: l)) (some (b :: m)) = (a :: l).all fun x => !(b :: m).contains x := _root_.id rfl
attribute [simp] idOf fl_nil
section
variable {h : Hp} {own : List Nat} {n : Nat}
@[simp] theorem exC_int {k : IntKind} {a : Int} : expC h own n (.int k a) = some (.int k a) := by cases n <;> rfl
@[simp] theorem exC_bool {a : Bool} : expC h own n (.bool a) = some (.bool a) := by cases n <;> rfl
@[simp] theorem exC_str {a : List UInt8} : expC h own n (.str a) = some (.str a) := by cases n <;> rfl
@[simp] theorem exC_ro {m : Nat} {cs : List V} : expC h own n (.ro m cs) = some (.ro m cs) := by cases n <;> rfl
@[simp] theorem exC_ns : expC h own n .ns = some (.ro 0 []) := by cases n <;> rfl
@[simp] theorem ex1_agg {cs : List V} : exp1 h own (.agg cs) = (cs.mapM (expC h own 8)).map V.agg := _root_.id rfl
@[simp] theorem ex_agg {cs : List V} : expV h own (.agg cs) = (cs.mapM (expC h own 8)).map V.agg := _root_.id rfl
end
section
variable {α : Type} {d : Cd α}
theorem Acc.exC {h : Hp} {nx n : Nat} {v : V} {l : List α} (a : Acc d h nx v l) : expC h [] (n + 1) v = some (.ro l.length (fl d l)) := by
  have hc := a.cell (n := n)
  rcases a.isV with rfl | ⟨_, _, _, _, rfl⟩ <;> exact hc
end
section
variable {α : Type} {d : Cd α}
/-- One more element: told by the block that is written. -/
theorem push_accW {esz bytes : Nat} {l : List α} {x : α} {h : Hp} {nx : Nat} {b : Option LB} {v : V} {cs : List V} {ids : List Nat} {K : V → Hp → Nat → Option (List Nat) → Option (List Nat) → Prop} (ha : Acc d h nx v l) (hs : d.sz = esz) (hc : cs = d.cells x)
    (hb : (l.length + 1) * bytes ≤ 2 ^ 47) (hl : l.length + 1 < 2 ^ 62)
    (hK : ∀ v' h' nx' i, Acc d h' nx' v' (l ++ [x]) → nx + 1 ≤ nx' → (∀ j, j < nx → ownOf v ≠ some j → h' j = h j) → (∀ j, ownOf v' = some j → ownOf v = some j ∨ nx ≤ j) → (ownOf v = some i ∨ i = nx + 1) → ownOf v' = some i → K v' h' nx' (some (i :: ids)) (some [i])) :
    appK esz bytes v (some (1, cs)) (upd h nx b) (nx + 1) ids K ⟨⟩ := by
  subst hc
  have hm : Acc d (upd h nx b) (nx + 1) v l := ha.mono (Nat.le_succ _) fun j hj => by simp only [upd]; rw [if_neg (by omega)]
  refine app_accW (l' := [x]) hm (by simp [fl]) hs (by simpa using hb) (by simpa using hl) fun v' h' nx' rd wr h1 h2 h3 h4 h5 => ?_
  obtain ⟨i, rfl, rfl, g1, g2, g3⟩ := h5 (by simp)
  refine hK v' h' nx' i h1 h2 (fun j hj hne => ?_) (fun j hj => ?_) g1 g3
  · rw [h3 j (by omega) hne]
    simp only [upd]
    rw [if_neg (by omega)]
  · rcases h4 j hj with q | q
    · exact .inl q
    · exact .inr (by omega)
/-- One more element. -/
theorem push_acc {esz bytes : Nat} {l : List α} {x : α} {h : Hp} {nx : Nat} {b : Option LB} {v : V} {cs : List V} {ids : List Nat} {K : V → Hp → Nat → Option (List Nat) → Option (List Nat) → Prop} (ha : Acc d h nx v l) (hs : d.sz = esz) (hc : cs = d.cells x)
    (hb : (l.length + 1) * bytes ≤ 2 ^ 47) (hl : l.length + 1 < 2 ^ 62)
    (hK : ∀ v' h' nx', Acc d h' nx' v' (l ++ [x]) → nx + 1 ≤ nx' → (∀ j, j < nx → ownOf v ≠ some j → h' j = h j) → (∀ j, ownOf v' = some j → ownOf v = some j ∨ nx ≤ j) → K v' h' nx' none none)
    (hm : ∀ v h nx rd wr, K v h nx none none → K v h nx rd wr := by exact fun _ _ _ _ _ h => h) :
    appK esz bytes v (some (1, cs)) (upd h nx b) (nx + 1) ids K ⟨⟩ :=
  push_accW ha hs hc hb hl fun v' h' nx' i h1 h2 h3 h4 _ _ => hm _ _ _ _ _ (hK v' h' nx' h1 h2 h3 h4)
theorem iaddr_sl {h : Hp} {id ver off n k esz : Nat} {cap : Option Nat} {b : LB} {kk : IntKind} {K : V → List Nat → Prop} (hb : h id = some b) (hv : b.ver = ver) (hk : k < n) : iaddrK h (.sl id ver off n cap) (.int kk k) esz K ⟨⟩ = K (.pt id ver (off + k * esz)) [id] := by
  have : (0 ≤ (k : Int) ∧ (k : Int) < n) = True := by simp; omega
  simp only [iaddrK, hb, this, guardK_true, hv]
  simp
/-- A row's element put anew. -/
theorem fl_set1 {u : α → V} (hu : ∀ a, d.cells a = [u a]) : ∀ (l : List α) (k : Nat) (x : α), (fl d l).set k (u x) = fl d (l.set k x)
  | [], _, _ => by simp [fl]
  | a :: l, 0, x => by rw [fl_cons, List.set_cons_zero, fl_cons, hu, hu]; rfl
  | a :: l, k + 1, x => by
    rw [fl_cons, List.set_cons_succ, fl_cons, hu, ← fl_set1 hu l k x]
    rfl
end
theorem pure_norefs {vs : List V} (h : V.pureL vs = true) : vs.all noRef = true := by
  rw [List.all_eq_true]
  intro v hv
  have := pureL_iff.1 h v hv
  cases v <;> first | exact this | rfl
/-- A call of pure values, that answers pure values. -/
theorem call_pure {P : Program} {f nx : Nat} {h : Hp} {vs us : List V} {v : V} {K : V → Hp → Nat → Option (List Nat) → Option (List Nat) → Prop} (hf : OkF P f us (v, [])) (hn : vs.all noRef = true) (hp : v.pure = true) (hK : K v h nx (some []) (some [])) : callK P f vs (some us) h nx K ⟨⟩ :=
  call_one hf (okRes_of hn) (by rw [shift_pure nx v hp]; unfold rdOf; rw [if_pos hn]; exact hK)
theorem call_own {P : Program} {f nx : Nat} {h : Hp} {vs us : List V} {r : V × List LB} {K : V → Hp → Nat → Option (List Nat) → Option (List Nat) → Prop} (hf : OkF P f us r) (hr : okRes vs r = true)
    (hK : K (shift nx r.1) (addB h nx r.2) (nx + r.2.length) (callRd vs nx r.2.length) (callWr vs nx r.2.length)) : callK P f vs (some us) h nx K ⟨⟩ := ⟨us, r, rfl, hf, hr, hK⟩
end Go.Ex
