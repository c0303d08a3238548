/- CheckBank, Written, ReadAt and Flipped answer as the reference does, with all errors, for every bank, place, word and bit; no condition. -/
import Derived.Laws.BitsAllLaws
import Derived.Test.YthlgdgmpmjfiiaaQMemoryBanksMatchSpecx8
import Derived.Test.YthlgdgmpmjfiiaaWSized
set_option linter.unusedVariables false
set_option linter.unusedSimpArgs false
/-- The printed row names this lemma without the seat's own words' namespace. -/
abbrev Go.Proofs.Ythlgdgmpmjfiiaa.PrintWords.sized_ints := @Go.Proofs.YthlgdgmpmjfiiaaW.PrintWords.sized_ints
namespace Go.Proofs.Ythlgdgmpmjfiiaa.Pure
open Go.RowKit Go.Proofs.Ythlgdgmpmjfiiaa.QMemoryBanksMatchSpec Go.Proofs.YthlgdgmpmjfiiaaW.PrintWords Go.Proofs.YthlgdgmpmjfiiaaW.PrintLast Go.Proofs.YthlgdgmpmjfiiaaW.PrintMore

theorem w64 {x : Int} (h0 : -9223372036854775808 ≤ x) (h1 : x ≤ 9223372036854775807) : wrap64 x = x := by unfold wrap64; omega
theorem rd_mid (pre : List Int) (n : Int) (t : List Int) : rd (pre ++ n :: t) (pre.length : Int) = n := by
  simp [rd]
theorem rd_mid' (pre : List Int) (n : Int) (t : List Int) {i : Int} (hi : i = (pre.length : Int)) : rd (pre ++ n :: t) i = n := by
  subst hi; exact rd_mid pre n t
theorem Ev.pos {α : Type} {c : Prop} [Decidable c] {f g : Nat → Option α} {r : α} (h : c) (k : Ev f r) : Ev (fun n => if c then f n else g n) r := by
  simp only [if_pos h]; exact k
theorem Ev.neg {α : Type} {c : Prop} [Decidable c] {f g : Nat → Option α} {r : α} (h : ¬ c) (k : Ev g r) : Ev (fun n => if c then f n else g n) r := by
  simp only [if_neg h]; exact k
theorem Ev.some {α : Type} {a r : α} (h : a = r) : Ev (fun _ => Option.some a) r := by subst h; exact Ev.now _
def isCk (i : Nat) : Bool := i == 1 || i == 2 || i == 4 || i == 8 || i == 16
def xmark : Nat → Nat → Nat → Nat → Nat
  | 0, _, _, m => m
  | n + 1, i, c, m => xmark n (i + 1) c (if c.testBit (i - 1) then m ^^^ i else m)
def xodd : Nat → Nat → Nat → Bool → Bool
  | 0, _, _, b => b
  | n + 1, i, c, b => xodd n (i + 1) c (b != c.testBit (i - 1))
def xdata : Nat → Nat → Nat → Nat → Nat
  | 0, _, _, c => c
  | n + 1, i, w, c => if isCk i then xdata n (i + 1) w c else xdata n (i + 1) (w / 2) (if w % 2 = 1 then c ^^^ 2 ^ (i - 1) else c)
def xword : Nat → Nat → Nat → Nat → Nat → Nat
  | 0, _, _, _, w => w
  | n + 1, i, c, k, w => if isCk i then xword n (i + 1) c k w else xword n (i + 1) c (k + 1) (if c.testBit (i - 1) then w ^^^ 2 ^ k else w)
def xck : Nat → Nat → Nat → Nat → Nat
  | 0, _, _, c => c
  | n + 1, j, m, c => xck n (j + 1) m (if m.testBit j then c ^^^ 2 ^ (2 ^ j - 1) else c)
def markN (c : Nat) : Nat := xmark 21 1 c 0
def oddN (c : Nat) : Bool := xodd 22 1 c false
def dataN (w : Nat) : Nat := xdata 21 1 w 0
def wordN (c : Nat) : Nat := xword 21 1 c 0 0
def ckN (m : Nat) : Nat := xck 5 0 m 0
def codedN (w : Nat) : Nat :=
  let c := dataN w ^^^ ckN (markN (dataN w))
  if oddN c then c ^^^ 2 ^ 21 else c
def kindN (c : Nat) : Nat × Nat :=
  if oddN c = true ∧ markN c = 0 then (2, 22) else if oddN c = true ∧ markN c < 22 then (2, markN c) else if oddN c = true ∨ markN c ≠ 0 then (3, 0) else (1, 0)
def repairedN (c : Nat) : Nat := if (kindN c).1 = 2 then c ^^^ 2 ^ ((kindN c).2 - 1) else c
/-- The word, how many bits were put right, the fault. -/
def decodedN (c : Nat) : Nat × Nat × Nat := if (kindN c).1 = 3 then (0, 0, 15) else (wordN (repairedN c), (kindN c).1 - 1, 0)

theorem xor_mix (a b c d : Nat) : (a ^^^ b) ^^^ (c ^^^ d) = (a ^^^ c) ^^^ (b ^^^ d) := by ac_rfl
theorem xodd_lin : ∀ (n i c d : Nat) (a b : Bool), xodd n i (c ^^^ d) (a != b) = (xodd n i c a != xodd n i d b)
  | 0, _, _, _, _, _ => rfl
  | n + 1, i, c, d, a, b => by
    simp only [xodd, Nat.testBit_xor]
    rw [← xodd_lin n]
    congr 1
    cases a <;> cases b <;> cases c.testBit (i - 1) <;> cases d.testBit (i - 1) <;> rfl
theorem oddN_lin (c d : Nat) : oddN (c ^^^ d) = (oddN c != oddN d) := xodd_lin 22 1 c d false false
theorem xor_mod2 (a b : Nat) : (a ^^^ b) % 2 = (a % 2 + b % 2) % 2 := by
  have h := Nat.xor_mod_two_pow (a := a) (b := b) (n := 1)
  simp only [Nat.pow_one] at h
  rw [h]
  rcases Nat.mod_two_eq_zero_or_one a with h1 | h1 <;> rcases Nat.mod_two_eq_zero_or_one b with h2 | h2 <;> rw [h1, h2] <;> rfl
theorem xor_div2 (a b : Nat) : (a ^^^ b) / 2 = a / 2 ^^^ b / 2 := by
  have h := Nat.xor_div_two_pow (a := a) (b := b) (n := 1)
  simpa using h
theorem xdata_lin : ∀ (n i w v c d : Nat), xdata n i (w ^^^ v) (c ^^^ d) = xdata n i w c ^^^ xdata n i v d
  | 0, _, _, _, _, _ => rfl
  | n + 1, i, w, v, c, d => by
    simp only [xdata]
    split
    · exact xdata_lin n ..
    · rw [← xdata_lin n, xor_div2, xor_mod2]
      congr 1
      rcases Nat.mod_two_eq_zero_or_one w with h1 | h1 <;> rcases Nat.mod_two_eq_zero_or_one v with h2 | h2 <;> simp [h1, h2]
      · ac_rfl
      · ac_rfl
      · rw [xor_mix, Nat.xor_self, Nat.xor_zero]
theorem dataN_lin (w v : Nat) : dataN (w ^^^ v) = dataN w ^^^ dataN v := xdata_lin 21 1 w v 0 0
theorem xck_lin : ∀ (n j m k c d : Nat), xck n j (m ^^^ k) (c ^^^ d) = xck n j m c ^^^ xck n j k d
  | 0, _, _, _, _, _ => rfl
  | n + 1, j, m, k, c, d => by
    simp only [xck]
    rw [← xck_lin n, Nat.testBit_xor]
    congr 1
    cases hc : m.testBit j <;> cases hd : k.testBit j <;> simp
    · ac_rfl
    · ac_rfl
    · rw [xor_mix, Nat.xor_self, Nat.xor_zero]
/-- Two maps that keep exclusive or are the same where they are so on the single bits. -/
theorem lin_ext {f g : Nat → Nat} (hf : ∀ a b, f (a ^^^ b) = f a ^^^ f b) (hg : ∀ a b, g (a ^^^ b) = g a ^^^ g b) : ∀ (n : Nat), (∀ j, j < n → f (2 ^ j) = g (2 ^ j)) → ∀ w, w < 2 ^ n → f w = g w
  | 0, _, w, hw => by
    obtain rfl : w = 0 := by simpa using hw
    have h1 := hf 0 0; have h2 := hg 0 0
    simp only [Nat.xor_self] at h1 h2
    rw [h1, h2]
  | n + 1, h, w, hw => by
    have ih := lin_ext hf hg n (fun j hj => h j (by omega))
    by_cases hb : w < 2 ^ n
    · exact ih w hb
    · have e : w = (w - 2 ^ n) ^^^ 2 ^ n := by
        have h2 : w - 2 ^ n < 2 ^ n := by rw [Nat.pow_succ] at hw; omega
        have h3 : (w - 2 ^ n) ^^^ 2 ^ n = 2 ^ n + (w - 2 ^ n) := by
          have h4 := Nat.two_pow_add_eq_or_of_lt h2 1
          rw [Nat.mul_one] at h4
          rw [h4]
          apply Nat.eq_of_testBit_eq
          intro i
          rw [Nat.testBit_xor, Nat.testBit_or, Nat.testBit_two_pow]
          by_cases hi : n = i
          · subst hi; rw [Nat.testBit_lt_two_pow h2]; simp
          · simp [hi]
        omega
      rw [e, hf, hg, ih _ (by rw [Nat.pow_succ] at hw; omega), h n (by omega)]
theorem or_bit {a j : Nat} (h : a.testBit j = false) : a ||| 2 ^ j = a ^^^ 2 ^ j := by
  apply Nat.eq_of_testBit_eq
  intro i
  rw [Nat.testBit_xor, Nat.testBit_or, Nat.testBit_two_pow]
  by_cases hi : j = i
  · subst hi; rw [h]; simp
  · simp [hi]
theorem or_bit_lt {a j : Nat} (h : a < 2 ^ j) : a ||| 2 ^ j = a ^^^ 2 ^ j := or_bit (Nat.testBit_lt_two_pow h)
theorem mark_lt : ∀ (n i c m : Nat), i + n ≤ 32 → m < 32 → xmark n i c m < 32
  | 0, _, _, _, _, h => h
  | n + 1, i, c, m, hi, h => by
    simp only [xmark]
    apply mark_lt n (i + 1) c _ (by omega)
    split
    · exact Nat.xor_lt_two_pow (n := 5) h (by omega)
    · exact h
theorem markN_lt (c : Nat) : markN c < 32 := mark_lt 21 1 c 0 (by decide) (by decide)
theorem data_lt : ∀ (n i w c : Nat), 1 ≤ i → c < 2 ^ (i - 1) → xdata n i w c < 2 ^ (i - 1 + n)
  | 0, _, _, _, _, h => h
  | n + 1, i, w, c, hi, h => by
    have h2 : (2 : Nat) ^ (i - 1) < 2 ^ i := Nat.pow_lt_pow_right (by decide) (by omega)
    simp only [xdata]
    rw [show i - 1 + (n + 1) = (i + 1) - 1 + n by omega]
    split
    · exact data_lt n (i + 1) w c (by omega) (by simp; omega)
    · apply data_lt n (i + 1) _ _ (by omega)
      simp only [Nat.add_sub_cancel]
      split
      · exact Nat.xor_lt_two_pow (by omega) h2
      · omega
theorem dataN_lt (w : Nat) : dataN w < 2 ^ 21 := data_lt 21 1 w 0 (by decide) (by decide)
theorem ckN_lt {m : Nat} (h : m < 32) : ckN m < 2 ^ 16 := by
  have : ∀ m : Fin 32, ckN m.val < 2 ^ 16 := by decide +kernel
  exact this ⟨m, h⟩
theorem code1_lt (w : Nat) : dataN w ^^^ ckN (markN (dataN w)) < 2 ^ 21 := Nat.xor_lt_two_pow (dataN_lt w) (Nat.lt_trans (ckN_lt (markN_lt _)) (by decide))
theorem data_ck {w : Nat} (h : w < 2 ^ 16) : dataN w &&& 32907 = 0 := by
  refine lin_ext (f := fun w => dataN w &&& 32907) (g := fun w => 0) (fun a b => by simp only [dataN_lin, Nat.and_xor_distrib_right]) (fun _ _ => rfl) 16 (fun j hj => ?_) w h
  have : ∀ j : Fin 16, dataN (2 ^ j.val) &&& 32907 = 0 := by decide +kernel
  exact this ⟨j, hj⟩
theorem kind_cases (c : Nat) : kindN c = (1, 0) ∨ (∃ a, 1 ≤ a ∧ a ≤ 22 ∧ kindN c = (2, a)) ∨ kindN c = (3, 0) := by
  unfold kindN
  split
  · exact .inr (.inl ⟨22, by decide, by decide, rfl⟩)
  · split
    · rename_i h1 h2
      exact .inr (.inl ⟨markN c, by have := h2.2; have : ¬ markN c = 0 := fun e => h1 ⟨h2.1, e⟩; omega, by omega, rfl⟩)
    · split
      · exact .inr (.inr rfl)
      · exact .inl rfl
theorem repaired_lt {c : Nat} (h : c < 2 ^ 22) : repairedN c < 2 ^ 22 := by
  unfold repairedN
  split
  · rename_i h2
    rcases kind_cases c with h1 | ⟨a, h3, h4, h1⟩ | h1
    · rw [h1] at h2; exact absurd h2 (by decide)
    · rw [h1]
      exact Nat.xor_lt_two_pow h (Nat.pow_lt_pow_right (by decide) (by omega))
    · rw [h1] at h2; exact absurd h2 (by decide)
  · exact h
theorem wrap_i64s (n : Int) (h₀ : 0 ≤ n) (h₁ : n < 2 ^ 62) : IntKind.i64.wrap n = n := by rw [IntKind.wrap_i64]; omega
theorem and_nat {a b : Nat} (ha : a < 2 ^ 62) (hb : b < 2 ^ 62) : Go.bits .and .i64 (a : Int) (b : Int) = ((a &&& b : Nat) : Int) := (bits_nat .i64 62 (by decide) wrap_i64s a b ha hb).1
theorem or_nat {a b : Nat} (ha : a < 2 ^ 62) (hb : b < 2 ^ 62) : Go.bits .or .i64 (a : Int) (b : Int) = ((a ||| b : Nat) : Int) := (bits_nat .i64 62 (by decide) wrap_i64s a b ha hb).2
theorem xor_nat {a b : Nat} (ha : a < 2 ^ 62) (hb : b < 2 ^ 62) : Go.bits .xor .i64 (a : Int) (b : Int) = ((a ^^^ b : Nat) : Int) := by
  have hx : a ^^^ b < 2 ^ 62 := Nat.xor_lt_two_pow ha hb
  have h1 : (BitVec.ofInt 64 (a : Int)).toNat = a := by
    rw [BitVec.ofInt_natCast, BitVec.toNat_ofNat]; exact Nat.mod_eq_of_lt (by omega)
  have h2 : (BitVec.ofInt 64 (b : Int)).toNat = b := by
    rw [BitVec.ofInt_natCast, BitVec.toNat_ofNat]; exact Nat.mod_eq_of_lt (by omega)
  show IntKind.i64.wrap ((BitVec.ofInt 64 (a : Int) ^^^ BitVec.ofInt 64 (b : Int)).toNat : Int) = _
  rw [BitVec.toNat_xor, h1, h2, IntKind.wrap_i64]
  omega
theorem two_pow_cast (j : Nat) : ((2 ^ j : Nat) : Int) = 2 ^ j := by simp
theorem shl_bit {j : Nat} (h : j ≤ 61) : shl .i64 1 (j : Int) = ((2 ^ j : Nat) : Int) := by
  have h2 : (2 : Nat) ^ j < 2 ^ 62 := Nat.pow_lt_pow_right (by decide) (by omega)
  unfold shl
  rw [Int.toNat_natCast, Nat.min_eq_left (by simp only [IntKind.bits]; omega), Int.one_mul, ← two_pow_cast]
  generalize 2 ^ j = m at h2 ⊢
  exact wrap_i64s _ (by omega) (by omega)
theorem and_bit {c j : Nat} (hc : c < 2 ^ 62) (hj : j ≤ 61) : (Go.bits .and .i64 (c : Int) ((2 ^ j : Nat) : Int) = 0) ↔ c.testBit j = false := by
  have h2 : (2 : Nat) ^ j < 2 ^ 62 := Nat.pow_lt_pow_right (by decide) (by omega)
  rw [and_nat hc h2, nat_bit, Nat.testBit_eq_decide_div_mod_eq]
  have h3 : 0 < 2 ^ j := Nat.two_pow_pos j
  rcases Nat.mod_two_eq_zero_or_one (c / 2 ^ j) with h | h
  · rw [h]; simp
  · rw [h, Nat.one_mul]
    generalize 2 ^ j = m at h3 ⊢
    simp
    omega
theorem shr_bit {c j : Nat} (hc : c < 2 ^ 62) (hj : j ≤ 61) : Go.bits .and .i64 (shr .i64 (c : Int) (j : Int)) 1 = if c.testBit j = true then 1 else 0 := by
  unfold shr
  rw [Int.toNat_natCast, Nat.min_eq_left (by simp only [IntKind.bits]; omega)]
  have h1 : (c : Int) / 2 ^ j = ((c / 2 ^ j : Nat) : Int) := by rw [Int.natCast_ediv, two_pow_cast]
  rw [h1]
  have h2 : c / 2 ^ j < 2 ^ 62 := Nat.lt_of_le_of_lt (Nat.div_le_self _ _) hc
  have h3 := and_nat (a := c / 2 ^ j) (b := 1) h2 (by decide)
  rw [show ((1 : Nat) : Int) = 1 from rfl] at h3
  rw [h3, Nat.and_one_is_mod, Nat.testBit_eq_decide_div_mod_eq]
  rcases Nat.mod_two_eq_zero_or_one (c / 2 ^ j) with h | h <;> simp [h]
theorem and_one {w : Nat} (hw : w < 2 ^ 62) : Go.bits .and .i64 (w : Int) 1 = ((w % 2 : Nat) : Int) := by
  have h3 := and_nat (a := w) (b := 1) hw (by decide)
  rw [show ((1 : Nat) : Int) = 1 from rfl] at h3
  rw [h3, Nat.and_one_is_mod]
theorem In_eq (a lo hi : Int) : kit_In.f a lo hi = some (decide (lo ≤ a ∧ a ≤ hi)) := by
  unfold kit_In.f
  split
  · rename_i h; simp [h]
  · rename_i h; simp [h]
theorem check_eq {i : Nat} (h1 : 1 ≤ i) (h : i ≤ 21) : memory_check.f (i : Int) = some (isCk i) := by
  have : ∀ i : Fin 22, 1 ≤ i.val → memory_check.f ((i.val : Nat) : Int) = some (isCk i.val) := by decide +kernel
  exact this ⟨i, by omega⟩ h1
theorem bit_eq {i : Nat} (h1 : 1 ≤ i) (h : i ≤ 22) : memory_bit.f (i : Int) = some ((2 ^ (i - 1) : Nat) : Int) := by
  unfold memory_bit.f
  rw [w64 (by omega) (by omega), if_pos (by omega), show (i : Int) - 1 = ((i - 1 : Nat) : Int) by omega, shl_bit (by omega)]
theorem lt62 {c : Nat} (h : c < 2 ^ 22) : c < 2 ^ 62 := by omega
theorem mark_loop {c : Nat} (hc : c < 2 ^ 22) : ∀ (n i m : Nat), i + n = 22 → 1 ≤ i → m < 32 → Ev (fun k => memory_mark.l0 k (c : Int) (m : Int) (i : Int)) ((xmark n i c m : Nat) : Int)
  | 0, i, m, hi, _, _ => by
    refine Ev.step (fun k => by rw [memory_mark.l0]) ?_
    exact Ev.neg (by omega) (Ev.now _)
  | n + 1, i, m, hi, h1, hm => by
    refine Ev.step (fun k => by rw [memory_mark.l0]) ?_
    simp only [bit_eq h1 (show i ≤ 22 by omega), Option.bind_some, w64 (show -9223372036854775808 ≤ (i : Int) + 1 by omega) (by omega)]
    refine Ev.pos (by omega) ?_
    simp only [xmark]
    have hb := and_bit (lt62 hc) (show i - 1 ≤ 61 by omega)
    cases ht : c.testBit (i - 1)
    · refine Ev.pos (hb.mpr ht) ?_
      exact mark_loop hc n (i + 1) m (by omega) (by omega) hm
    · refine Ev.neg (fun h => by rw [hb] at h; rw [h] at ht; cases ht) ?_
      rw [xor_nat (by omega) (by omega)]
      exact mark_loop hc n (i + 1) (m ^^^ i) (by omega) (by omega) (Nat.xor_lt_two_pow (n := 5) hm (by omega))
theorem mark_ev {c : Nat} (hc : c < 2 ^ 22) : Ev (fun k => memory_mark.f k (c : Int)) ((markN c : Nat) : Int) := by
  unfold memory_mark.f
  exact mark_loop hc 21 1 0 rfl (by decide) (by decide)
def sw1 (b : Nat) : Nat := (b / 2 &&& 85) + (b &&& 85)
def sw2 (b : Nat) : Nat := (b / 4 &&& 51) + (b &&& 51)
def sw3 (b : Nat) : Nat := (b / 16 + b) &&& 15
def pc8 (b : Nat) : Nat := sw3 (sw2 (sw1 b))
theorem and_split (a b m n k : Nat) (ha : a < 2 ^ k) (hm : m < 2 ^ k) : (a + 2 ^ k * b) &&& (m + 2 ^ k * n) = (a &&& m) + 2 ^ k * (b &&& n) := by
  have hp := Nat.two_pow_pos k
  have h1 := Nat.div_add_mod ((a + 2 ^ k * b) &&& (m + 2 ^ k * n)) (2 ^ k)
  rw [Nat.and_mod_two_pow, Nat.and_div_two_pow, Nat.add_mul_mod_self_left, Nat.add_mul_mod_self_left, Nat.mod_eq_of_lt ha, Nat.mod_eq_of_lt hm, Nat.add_mul_div_left _ _ hp, Nat.add_mul_div_left _ _ hp, Nat.div_eq_of_lt ha, Nat.div_eq_of_lt hm, Nat.zero_add, Nat.zero_add] at h1
  omega
theorem and3 (a b c m : Nat) (ha : a < 256) (hb : b < 256) (hc : c < 256) (hm : m < 256) : (a + 256 * b + 65536 * c) &&& (m + 256 * m + 65536 * m + 16777216 * (m + 256 * m + 65536 * m + 16777216 * m + 4294967296 * m)) = (a &&& m) + 256 * (b &&& m) + 65536 * (c &&& m) := by
  have e1 : a + 256 * b + 65536 * c = a + 2 ^ 8 * (b + 2 ^ 8 * c) := by omega
  have e2 : m + 256 * m + 65536 * m + 16777216 * (m + 256 * m + 65536 * m + 16777216 * m + 4294967296 * m) = m + 2 ^ 8 * (m + 2 ^ 8 * (m + 2 ^ 8 * (m + 256 * m + 65536 * m + 16777216 * m + 4294967296 * m))) := by omega
  rw [e1, e2, and_split _ _ _ _ 8 (by omega) (by omega), and_split _ _ _ _ 8 (by omega) (by omega)]
  have e3 := and_split c 0 m (m + 256 * m + 65536 * m + 16777216 * m + 4294967296 * m) 8 (by omega) (by omega)
  rw [Nat.zero_and, Nat.mul_zero, Nat.add_zero, Nat.add_zero] at e3
  rw [e3]
  omega
theorem b85 : ∀ b : Fin 256, ∀ t : Fin 2, (b.val / 2 + 128 * t.val) &&& 85 = b.val / 2 &&& 85 := by decide +kernel
theorem b51 : ∀ b : Fin 256, ∀ t : Fin 4, (b.val / 4 + 64 * t.val) &&& 51 = b.val / 4 &&& 51 := by decide +kernel
theorem sw1_lt : ∀ b : Fin 256, sw1 b.val < 256 ∧ (sw2 (sw1 b.val) < 69 ∧ sw2 (sw1 b.val) % 16 < 5) ∧ pc8 b.val < 9 := by decide +kernel
theorem ones_eq {c : Nat} (hc : c < 2 ^ 22) : bits_OnesCount64.f (c : Int) = some ((pc8 (c % 256) + pc8 (c / 256 % 256) + pc8 (c / 65536) : Nat) : Int) := by
  obtain ⟨b0, b1, b2, hb0, hb1, hb2, rfl⟩ : ∃ b0 b1 b2 : Nat, b0 < 256 ∧ b1 < 256 ∧ b2 < 64 ∧ c = b0 + 256 * b1 + 65536 * b2 := ⟨c % 256, c / 256 % 256, c / 65536, by omega, by omega, by omega, by omega⟩
  rw [show (b0 + 256 * b1 + 65536 * b2) % 256 = b0 by omega, show (b0 + 256 * b1 + 65536 * b2) / 256 % 256 = b1 by omega, show (b0 + 256 * b1 + 65536 * b2) / 65536 = b2 by omega]
  have l0 := sw1_lt ⟨b0, hb0⟩; have l1 := sw1_lt ⟨b1, hb1⟩; have l2 := sw1_lt ⟨b2, by omega⟩
  unfold pc8
  simp only [pc8] at l0 l1 l2
  have hs1 : ((b0 + 256 * b1 + 65536 * b2) / 2 &&& 6148914691236517205) + ((b0 + 256 * b1 + 65536 * b2) &&& 6148914691236517205) = sw1 b0 + 256 * sw1 b1 + 65536 * sw1 b2 := by
    have s1 := and3 (b0 / 2 + 128 * (b1 % 2)) (b1 / 2 + 128 * (b2 % 2)) (b2 / 2) 85 (by omega) (by omega) (by omega) (by omega)
    rw [b85 ⟨b0, hb0⟩ ⟨b1 % 2, by omega⟩, b85 ⟨b1, hb1⟩ ⟨b2 % 2, by omega⟩] at s1
    have t1 := and3 b0 b1 b2 85 hb0 hb1 (by omega) (by omega)
    simp only [Nat.reduceMul, Nat.reduceAdd] at s1 t1
    rw [show (b0 + 256 * b1 + 65536 * b2) / 2 = b0 / 2 + 128 * (b1 % 2) + 256 * (b1 / 2 + 128 * (b2 % 2)) + 65536 * (b2 / 2) by omega, s1, t1]
    unfold sw1; omega
  have e1 : IntKind.u64.wrap (Go.bits .and .u64 (((b0 + 256 * b1 + 65536 * b2 : Nat) : Int) / 2) 6148914691236517205 + Go.bits .and .u64 ((b0 + 256 * b1 + 65536 * b2 : Nat) : Int) 6148914691236517205) = ((sw1 b0 + 256 * sw1 b1 + 65536 * sw1 b2 : Nat) : Int) := by
    have h1 := u64_and_nat ((b0 + 256 * b1 + 65536 * b2) / 2) 6148914691236517205 (by omega) (by decide)
    have h2 := u64_and_nat (b0 + 256 * b1 + 65536 * b2) 6148914691236517205 (by omega) (by decide)
    rw [Int.natCast_ediv] at h1
    simp only [Int.cast_ofNat_Int] at h1 h2
    rw [h1, h2, IntKind.wrap_u64, ← Int.natCast_add, hs1]
    omega
  unfold bits_OnesCount64.f
  rw [e1]
  generalize sw1 b0 = y0 at l0 ⊢
  generalize sw1 b1 = y1 at l1 ⊢
  generalize sw1 b2 = y2 at l2 ⊢
  clear e1 hs1
  have hs2 : ((y0 + 256 * y1 + 65536 * y2) / 4 &&& 3689348814741910323) + ((y0 + 256 * y1 + 65536 * y2) &&& 3689348814741910323) = sw2 y0 + 256 * sw2 y1 + 65536 * sw2 y2 := by
    have s2 := and3 (y0 / 4 + 64 * (y1 % 4)) (y1 / 4 + 64 * (y2 % 4)) (y2 / 4) 51 (by omega) (by omega) (by omega) (by omega)
    rw [b51 ⟨y0, by omega⟩ ⟨y1 % 4, by omega⟩, b51 ⟨y1, by omega⟩ ⟨y2 % 4, by omega⟩] at s2
    have t2 := and3 y0 y1 y2 51 (by omega) (by omega) (by omega) (by omega)
    simp only [Nat.reduceMul, Nat.reduceAdd] at s2 t2
    rw [show (y0 + 256 * y1 + 65536 * y2) / 4 = y0 / 4 + 64 * (y1 % 4) + 256 * (y1 / 4 + 64 * (y2 % 4)) + 65536 * (y2 / 4) by omega, s2, t2]
    unfold sw2; omega
  have e2 : IntKind.u64.wrap (Go.bits .and .u64 (((y0 + 256 * y1 + 65536 * y2 : Nat) : Int) / 4) 3689348814741910323 + Go.bits .and .u64 ((y0 + 256 * y1 + 65536 * y2 : Nat) : Int) 3689348814741910323) = ((sw2 y0 + 256 * sw2 y1 + 65536 * sw2 y2 : Nat) : Int) := by
    have h1 := u64_and_nat ((y0 + 256 * y1 + 65536 * y2) / 4) 3689348814741910323 (by omega) (by decide)
    have h2 := u64_and_nat (y0 + 256 * y1 + 65536 * y2) 3689348814741910323 (by omega) (by decide)
    rw [Int.natCast_ediv] at h1
    simp only [Int.cast_ofNat_Int] at h1 h2
    rw [h1, h2, IntKind.wrap_u64, ← Int.natCast_add, hs2]
    omega
  rw [e2]
  generalize sw2 y0 = z0 at l0 ⊢
  generalize sw2 y1 = z1 at l1 ⊢
  generalize sw2 y2 = z2 at l2 ⊢
  clear e2 hs2
  have b15 : ∀ z : Fin 69, ∀ t : Fin 5, (z.val / 16 + z.val + 16 * t.val) &&& 15 = (z.val / 16 + z.val) &&& 15 := by decide +kernel
  have hs3 : ((z0 + 256 * z1 + 65536 * z2) / 16 + (z0 + 256 * z1 + 65536 * z2)) &&& 1085102592571150095 = sw3 z0 + 256 * sw3 z1 + 65536 * sw3 z2 := by
    have s3 := and3 (z0 / 16 + z0 + 16 * (z1 % 16)) (z1 / 16 + z1 + 16 * (z2 % 16)) (z2 / 16 + z2) 15 (by omega) (by omega) (by omega) (by omega)
    rw [b15 ⟨z0, by omega⟩ ⟨z1 % 16, by omega⟩, b15 ⟨z1, by omega⟩ ⟨z2 % 16, by omega⟩] at s3
    simp only [Nat.reduceMul, Nat.reduceAdd] at s3
    rw [show (z0 + 256 * z1 + 65536 * z2) / 16 + (z0 + 256 * z1 + 65536 * z2) = z0 / 16 + z0 + 16 * (z1 % 16) + 256 * (z1 / 16 + z1 + 16 * (z2 % 16)) + 65536 * (z2 / 16 + z2) by omega, s3]
    rfl
  have e3 : Go.bits .and .u64 (IntKind.u64.wrap (((z0 + 256 * z1 + 65536 * z2 : Nat) : Int) / 16 + ((z0 + 256 * z1 + 65536 * z2 : Nat) : Int))) 1085102592571150095 = ((sw3 z0 + 256 * sw3 z1 + 65536 * sw3 z2 : Nat) : Int) := by
    have h1 := u64_and_nat ((z0 + 256 * z1 + 65536 * z2) / 16 + (z0 + 256 * z1 + 65536 * z2)) 1085102592571150095 (by omega) (by decide)
    rw [Int.natCast_add, Int.natCast_ediv] at h1
    simp only [Int.cast_ofNat_Int] at h1
    rw [IntKind.wrap_u64, Int.emod_eq_of_lt (by omega) (by omega), h1, hs3]
  rw [e3]
  clear e3 hs3 b15
  generalize sw3 z0 = p0 at l0 ⊢
  generalize sw3 z1 = p1 at l1 ⊢
  generalize sw3 z2 = p2 at l2 ⊢
  simp only [IntKind.wrap_u64]
  have d1 : ((p0 + 256 * p1 + 65536 * p2 : Nat) : Int) / 256 = ((p1 + 256 * p2 : Nat) : Int) := by omega
  have m1 : ((p0 + 256 * p1 + 65536 * p2 + (p1 + 256 * p2) : Nat) : Int) % 18446744073709551616 = ((p0 + 256 * p1 + 65536 * p2 + (p1 + 256 * p2) : Nat) : Int) := Int.emod_eq_of_lt (by omega) (by omega)
  rw [d1, ← Int.natCast_add, m1]
  have d2 : ((p0 + 256 * p1 + 65536 * p2 + (p1 + 256 * p2) : Nat) : Int) / 65536 = ((p2 : Nat) : Int) := by omega
  have m2 : ((p0 + 256 * p1 + 65536 * p2 + (p1 + 256 * p2) + p2 : Nat) : Int) % 18446744073709551616 = ((p0 + 256 * p1 + 65536 * p2 + (p1 + 256 * p2) + p2 : Nat) : Int) := Int.emod_eq_of_lt (by omega) (by omega)
  rw [d2, ← Int.natCast_add, m2]
  have d3 : ((p0 + 256 * p1 + 65536 * p2 + (p1 + 256 * p2) + p2 : Nat) : Int) / 4294967296 = 0 := by omega
  rw [d3, Int.add_zero, m2, w64 (by omega) (by omega)]
  clear d1 d2 d3 m1 m2
  have h := and_nat (a := p0 + 256 * p1 + 65536 * p2 + (p1 + 256 * p2) + p2) (b := 127) (by omega) (by decide)
  rw [show ((127 : Nat) : Int) = 127 from rfl, nat_mask7] at h
  rw [h]
  congr 2
  omega
theorem ones_parity {c : Nat} (hc : c < 2 ^ 22) : ((pc8 (c % 256) + pc8 (c / 256 % 256) + pc8 (c / 65536)) % 2 == 1) = oddN c := by
  have h0 : ∀ b : Fin 256, (pc8 b.val % 2 == 1) = oddN b.val ∧ oddN (256 * b.val) = oddN b.val ∧ (b.val < 64 → oddN (65536 * b.val) = oddN b.val) := by decide +kernel
  have k0 := h0 ⟨c % 256, by omega⟩; have k1 := h0 ⟨c / 256 % 256, by omega⟩; have k2 := h0 ⟨c / 65536, by omega⟩
  simp only at k0 k1 k2
  have e : c = (c % 256 ^^^ 256 * (c / 256 % 256)) ^^^ 65536 * (c / 65536) := by
    have e1 : c % 256 ^^^ 256 * (c / 256 % 256) = c % 256 + 256 * (c / 256 % 256) := by
      have := Nat.two_pow_add_eq_or_of_lt (i := 8) (b := c % 256) (by omega) (c / 256 % 256)
      apply Nat.eq_of_testBit_eq; intro i
      rw [show c % 256 + 256 * (c / 256 % 256) = 2 ^ 8 * (c / 256 % 256) + c % 256 by omega, this, show 256 * (c / 256 % 256) = 2 ^ 8 * (c / 256 % 256) by omega, Nat.testBit_xor, Nat.testBit_or, Nat.testBit_two_pow_mul]
      by_cases hi : 8 ≤ i
      · rw [Nat.testBit_lt_two_pow (show c % 256 < 2 ^ i from Nat.lt_of_lt_of_le (by omega) (Nat.pow_le_pow_right (n := 2) (by decide) hi))]; simp
      · simp [hi]
    rw [e1]
    have := Nat.two_pow_add_eq_or_of_lt (i := 16) (b := c % 256 + 256 * (c / 256 % 256)) (by omega) (c / 65536)
    apply Nat.eq_of_testBit_eq; intro i
    have e2 : c.testBit i = (2 ^ 16 * (c / 65536) + (c % 256 + 256 * (c / 256 % 256))).testBit i := by congr 1; omega
    rw [e2, this, show 65536 * (c / 65536) = 2 ^ 16 * (c / 65536) by omega, Nat.testBit_xor, Nat.testBit_or, Nat.testBit_two_pow_mul]
    by_cases hi : 16 ≤ i
    · rw [Nat.testBit_lt_two_pow (show c % 256 + 256 * (c / 256 % 256) < 2 ^ i from Nat.lt_of_lt_of_le (by omega) (Nat.pow_le_pow_right (n := 2) (by decide) hi))]; simp
    · simp [hi]
  have e3 : oddN c = ((oddN (c % 256) != oddN (256 * (c / 256 % 256))) != oddN (65536 * (c / 65536))) := by
    rw [← oddN_lin, ← oddN_lin, ← e]
  rw [e3, k1.2.1, k2.2.2 (by omega), ← k0.1, ← k1.1, ← k2.1]
  generalize pc8 (c % 256) = x; generalize pc8 (c / 256 % 256) = y; generalize pc8 (c / 65536) = z
  rcases Nat.mod_two_eq_zero_or_one x with hx | hx <;> rcases Nat.mod_two_eq_zero_or_one y with hy | hy <;> rcases Nat.mod_two_eq_zero_or_one z with hz | hz <;> simp [hx, hy, hz, Nat.add_mod]
theorem odd_eq {c : Nat} (hc : c < 2 ^ 22) : memory_odd.f (c : Int) = some (oddN c) := by
  unfold memory_odd.f bits_OnesCount.f
  rw [IntKind.wrap_u64, Int.emod_eq_of_lt (by omega) (by omega), ones_eq hc, Option.bind_some, Option.bind_some, ← ones_parity hc]
  generalize pc8 (c % 256) + pc8 (c / 256 % 256) + pc8 (c / 65536) = n
  rw [Int.tmod_eq_emod_of_nonneg (by omega)]
  congr 1
  rcases Nat.mod_two_eq_zero_or_one n with h | h
  · rw [h, show (n : Int) % 2 = 0 by omega]; rfl
  · rw [h, show (n : Int) % 2 = 1 by omega]; rfl
theorem ck_bits {w : Nat} (h : w < 2 ^ 16) : (dataN w).testBit 0 = false ∧ (dataN w).testBit 1 = false ∧ (dataN w).testBit 3 = false ∧ (dataN w).testBit 7 = false ∧ (dataN w).testBit 15 = false := by
  have hd := data_ck h
  have f : ∀ i, (32907 : Nat).testBit i = true → (dataN w).testBit i = false := by
    intro i hi
    have := congrArg (fun z => Nat.testBit z i) hd
    simp only [Nat.testBit_and, hi, Bool.and_true, Nat.zero_testBit] at this
    exact this
  exact ⟨f 0 (by decide), f 1 (by decide), f 3 (by decide), f 7 (by decide), f 15 (by decide)⟩
/-- The check bits, one behind the other, put by 'or'. -/
theorem coded_checks {c m : Nat} (hc : c < 2 ^ 22) (hm : m < 32) (h0 : c.testBit 0 = false) (h1 : c.testBit 1 = false) (h3 : c.testBit 3 = false) (h7 : c.testBit 7 = false) (h15 : c.testBit 15 = false) {g : Nat → Int → Nat → Option (Int × Int)} {r : Int × Int}
    (step : ∀ (c i j : Nat), c < 2 ^ 22 → i = 2 ^ j → j < 5 → ∀ r, (m.testBit j = false → Ev (fun k => g k (c : Int) (2 ^ (j + 1))) r) → (m.testBit j = true → Ev (fun k => g k ((c ||| 2 ^ (i - 1) : Nat) : Int) (2 ^ (j + 1))) r) → Ev (fun k => g k (c : Int) i) r)
    (last : Ev (fun k => g k ((c ^^^ ckN m : Nat) : Int) 32) r) : Ev (fun k => g k (c : Int) 1) r := by
  have one : ∀ (j : Nat) (c : Nat), c < 2 ^ 22 → j < 5 → c.testBit (2 ^ j - 1) = false → Ev (fun k => g k ((if m.testBit j then c ^^^ 2 ^ (2 ^ j - 1) else c : Nat) : Int) (2 ^ (j + 1))) r → Ev (fun k => g k (c : Int) (2 ^ j)) r := by
    intro j c hc hj hb H
    refine step c (2 ^ j) j hc rfl hj r (fun ht => ?_) (fun ht => ?_)
    · rw [ht] at H; exact H
    · rw [ht] at H; rw [or_bit hb]; exact H
  have lt : ∀ (j : Nat) (c : Nat), c < 2 ^ 22 → j < 5 → (if m.testBit j then c ^^^ 2 ^ (2 ^ j - 1) else c) < 2 ^ 22 := by
    intro j c hc hj
    split
    · refine Nat.xor_lt_two_pow hc (Nat.pow_lt_pow_right (by decide) ?_)
      have : ∀ j : Fin 5, 2 ^ j.val - 1 < 22 := by decide
      exact this ⟨j, hj⟩
    · exact hc
  have keep : ∀ (j i : Nat) (c : Nat), c.testBit i = false → 2 ^ j - 1 ≠ i → (if m.testBit j then c ^^^ 2 ^ (2 ^ j - 1) else c).testBit i = false := by
    intro j i c hb hne
    split
    · rw [Nat.testBit_xor, hb, Nat.testBit_two_pow]; simp [hne]
    · exact hb
  refine one 0 c hc (by decide) h0 ?_
  refine one 1 _ (lt 0 c hc (by decide)) (by decide) (keep 0 1 c h1 (by decide)) ?_
  refine one 2 _ (lt 1 _ (lt 0 c hc (by decide)) (by decide)) (by decide) (keep 1 3 _ (keep 0 3 c h3 (by decide)) (by decide)) ?_
  refine one 3 _ (lt 2 _ (lt 1 _ (lt 0 c hc (by decide)) (by decide)) (by decide)) (by decide) (keep 2 7 _ (keep 1 7 _ (keep 0 7 c h7 (by decide)) (by decide)) (by decide)) ?_
  refine one 4 _ (lt 3 _ (lt 2 _ (lt 1 _ (lt 0 c hc (by decide)) (by decide)) (by decide)) (by decide)) (by decide) (keep 3 15 _ (keep 2 15 _ (keep 1 15 _ (keep 0 15 c h15 (by decide)) (by decide)) (by decide)) (by decide)) ?_
  have e := xck_lin 5 0 m 0 0 c
  have e0 : xck 5 0 0 c = c := by simp [xck]
  rw [Nat.xor_zero, Nat.zero_xor, e0] at e
  have e2 : ckN m = xck 5 0 m 0 := rfl
  rw [e2, Nat.xor_comm, ← e] at last
  exact last
theorem coded_tail {w c : Nat} (hw : w < 2 ^ 16) (hc : c = dataN w) : Ev (fun k => memory_Coded.l1 k (c : Int) ((markN c : Nat) : Int) 1) (((codedN w : Nat) : Int), 0) := by
  obtain ⟨h0, h1, h3, h7, h15⟩ := ck_bits hw
  subst hc
  have hd := dataN_lt w
  have hm := markN_lt (dataN w)
  refine coded_checks (g := fun k c i => memory_Coded.l1 k c ((markN (dataN w) : Nat) : Int) (i : Int)) (Nat.lt_trans hd (by decide)) hm h0 h1 h3 h7 h15 ?_ ?_
  · intro c i j hc hi hj r H0 H1
    have hil : i ≤ 16 := by
      have : ∀ j : Fin 5, 2 ^ j.val ≤ 16 := by decide
      rw [hi]; exact this ⟨j, hj⟩
    have hi1 : 1 ≤ i := by rw [hi]; exact Nat.two_pow_pos j
    refine Ev.step (fun k => by rw [memory_Coded.l1]) ?_
    refine Ev.pos (by omega) ?_
    have hb : Go.bits .and .i64 ((markN (dataN w) : Nat) : Int) (i : Int) = 0 ↔ (markN (dataN w)).testBit j = false := by
      rw [hi]; exact and_bit (by omega) (by omega)
    have e2 : (i : Int) * 2 = ((2 ^ (j + 1) : Nat) : Int) := by rw [Nat.pow_succ, ← hi]; omega
    rw [w64 (show -9223372036854775808 ≤ (i : Int) * 2 by omega) (by omega), e2]
    cases ht : (markN (dataN w)).testBit j
    · exact Ev.pos (hb.mpr ht) (H0 ht)
    · refine Ev.neg (fun h => by rw [hb, ht] at h; cases h) ?_
      have h2 : (2 : Nat) ^ (i - 1) < 2 ^ 22 := Nat.pow_lt_pow_right (by decide) (by omega)
      simp only [bit_eq hi1 (show i ≤ 22 by omega), Option.bind_some, or_nat (lt62 hc) (lt62 h2)]
      exact H1 ht
  · refine Ev.step (fun k => by rw [memory_Coded.l1]) ?_
    refine Ev.neg (by decide) ?_
    have hl := code1_lt w
    simp only [odd_eq (c := dataN w ^^^ ckN (markN (dataN w))) (Nat.lt_trans hl (by decide)), Option.bind_some]
    unfold codedN
    simp only
    cases ho : oddN (dataN w ^^^ ckN (markN (dataN w)))
    · exact Ev.neg (by simp) (Ev.now _)
    · have hb := bit_eq (i := 22) (by decide) (by decide)
      simp only [show ((22 : Nat) : Int) = 22 from rfl] at hb
      simp only [hb, Option.bind_some, if_true]
      refine Ev.some ?_
      rw [or_nat (by omega) (by decide), or_bit_lt hl]
theorem data_loop {w0 : Nat} (hw0 : w0 < 2 ^ 16) : ∀ (n i w c : Nat), i + n = 22 → 1 ≤ i → w < 2 ^ 16 → c < 2 ^ (i - 1) → xdata n i w c = dataN w0 →
    Ev (fun k => memory_Coded.l0 k (w : Int) (c : Int) (i : Int)) (((codedN w0 : Nat) : Int), 0)
  | 0, i, w, c, hi, _, _, _, he => by
    refine Ev.step (fun k => by rw [memory_Coded.l0]) ?_
    refine Ev.neg (by omega) ?_
    simp only [xdata] at he
    have hcl : c < 2 ^ 22 := by rw [he]; exact Nat.lt_trans (dataN_lt w0) (by decide)
    exact Ev.bind (mark_ev hcl) (coded_tail hw0 he)
  | n + 1, i, w, c, hi, h1, hw, hc, he => by
    have h2 : (2 : Nat) ^ (i - 1) < 2 ^ i := Nat.pow_lt_pow_right (by decide) (by omega)
    have h3 : (2 : Nat) ^ i ≤ 2 ^ 21 := Nat.pow_le_pow_right (by decide) (by omega)
    refine Ev.step (fun k => by rw [memory_Coded.l0]) ?_
    refine Ev.pos (by omega) ?_
    simp only [check_eq h1 (show i ≤ 21 by omega), Option.bind_some, w64 (show -9223372036854775808 ≤ (i : Int) + 1 by omega) (by omega)]
    simp only [xdata] at he
    cases hk : isCk i
    · rw [hk] at he
      simp only [Bool.false_eq_true, if_false] at he
      refine Ev.neg (by simp) ?_
      rw [and_one (by omega), show (w : Int) / 2 = ((w / 2 : Nat) : Int) by omega]
      rcases Nat.mod_two_eq_zero_or_one w with hm | hm
      · rw [hm] at he ⊢
        refine Ev.pos rfl ?_
        exact data_loop hw0 n (i + 1) (w / 2) c (by omega) (by omega) (by omega) (by simp; omega) (by simpa using he)
      · rw [hm] at he ⊢
        refine Ev.neg (by decide) ?_
        simp only [bit_eq h1 (show i ≤ 22 by omega), Option.bind_some, or_nat (show c < 2 ^ 62 by omega) (show 2 ^ (i - 1) < 2 ^ 62 by omega), or_bit_lt hc]
        exact data_loop hw0 n (i + 1) (w / 2) _ (by omega) (by omega) (by omega) (by simp only [Nat.add_sub_cancel]; exact Nat.xor_lt_two_pow (by omega) h2) (by simpa using he)
    · rw [hk] at he
      refine Ev.pos rfl ?_
      exact data_loop hw0 n (i + 1) w c (by omega) (by omega) hw (by simp; omega) (by simpa using he)
theorem coded_ev (a : Int) : Ev (fun k => memory_Coded.f k a) (if 0 ≤ a ∧ a ≤ 65535 then (((codedN a.toNat : Nat) : Int), 0) else (0, 1)) := by
  unfold memory_Coded.f
  simp only [In_eq, Option.bind_some, decide_eq_true_eq]
  by_cases h : 0 ≤ a ∧ a ≤ 65535
  · rw [if_pos h]
    obtain ⟨w, rfl⟩ := Int.eq_ofNat_of_zero_le h.1
    exact Ev.pos h (data_loop (w0 := w) (by omega) 21 1 w 0 rfl (by decide) (by omega) (by decide) rfl)
  · rw [if_neg h]
    exact Ev.neg h (Ev.now _)
theorem kind_ev {c : Nat} (hc : c < 2 ^ 22) : Ev (fun k => memory_kind.f k (c : Int)) ((((kindN c).1 : Nat) : Int), (((kindN c).2 : Nat) : Int)) := by
  unfold memory_kind.f
  refine Ev.bind (mark_ev hc) ?_
  simp only [odd_eq hc, Option.bind_some]
  unfold kindN
  cases ho : oddN c
  · refine Ev.neg (by simp) ?_
    refine Ev.step (fun k => by rw [memory_kind.j0]) (Ev.neg (by simp) ?_)
    simp only [odd_eq hc, Option.bind_some, ho]
    refine Ev.neg (by simp) ?_
    refine Ev.step (fun k => by rw [memory_kind.j1]) (Ev.neg (by simp) ?_)
    simp only [odd_eq hc, Option.bind_some, ho]
    refine Ev.neg (by simp) ?_
    by_cases hm : markN c = 0
    · exact Ev.pos (by omega) (Ev.some (by simp [hm]))
    · exact Ev.neg (by omega) (Ev.some (by simp [hm]))
  · refine Ev.pos rfl ?_
    refine Ev.step (fun k => by rw [memory_kind.j0]) ?_
    by_cases hm : markN c = 0
    · exact Ev.pos (by simp [hm]) (Ev.some (by simp [hm]))
    · refine Ev.neg (by simp [hm]) ?_
      simp only [odd_eq hc, Option.bind_some, ho]
      refine Ev.pos (by simp) ?_
      refine Ev.step (fun k => by rw [memory_kind.j1]) ?_
      by_cases h22 : markN c < 22
      · exact Ev.pos (by simp; omega) (Ev.some (by simp [hm, h22]))
      · refine Ev.neg (by simp; omega) ?_
        simp only [odd_eq hc, Option.bind_some, ho]
        exact Ev.pos (by simp) (Ev.some (by simp [hm, h22]))
theorem kind_bounds (c : Nat) : 1 ≤ (kindN c).1 ∧ (kindN c).1 ≤ 3 ∧ (kindN c).2 ≤ 22 ∧ ((kindN c).1 = 2 → 1 ≤ (kindN c).2) := by
  rcases kind_cases c with h | ⟨a, h0, h1, h⟩ | h <;> rw [h] <;> simp <;> omega
theorem repaired_ev {c : Nat} (hc : c < 2 ^ 22) : Ev (fun k => memory_repaired.f k (c : Int)) ((repairedN c : Nat) : Int) := by
  have hb := kind_bounds c
  unfold memory_repaired.f
  refine Ev.bind (kind_ev hc) ?_
  unfold repairedN
  by_cases h2 : (kindN c).1 = 2
  · have h3 := hb.2.2.2 h2
    have h4 : (2 : Nat) ^ ((kindN c).2 - 1) < 2 ^ 22 := Nat.pow_lt_pow_right (by decide) (by omega)
    refine Ev.pos (by omega) ?_
    rw [bit_eq h3 (by omega), Option.bind_some, xor_nat (lt62 hc) (lt62 h4), if_pos h2]
    exact Ev.now _
  · rw [if_neg h2]
    exact Ev.neg (by omega) (Ev.now _)
theorem word_loop {c : Nat} (hc : c < 2 ^ 22) (x : Int) : ∀ (n i k w : Nat), i + n = 22 → 1 ≤ i → k < i → w < 2 ^ k →
    Ev (fun q => memory_Decoded.l0 q (c : Int) x (w : Int) (k : Int) (i : Int)) (((xword n i c k w : Nat) : Int), wrap64 (x - 1), 0)
  | 0, i, k, w, hi, _, _, _ => by
    refine Ev.step (fun k => by rw [memory_Decoded.l0]) ?_
    exact Ev.neg (by omega) (Ev.now _)
  | n + 1, i, k, w, hi, h1, hk, hw => by
    have h2 : (2 : Nat) ^ k < 2 ^ (k + 1) := Nat.pow_lt_pow_right (by decide) (by omega)
    have h3 : (2 : Nat) ^ k ≤ 2 ^ 21 := Nat.pow_le_pow_right (by decide) (by omega)
    refine Ev.step (fun k => by rw [memory_Decoded.l0]) ?_
    refine Ev.pos (by omega) ?_
    simp only [check_eq h1 (show i ≤ 21 by omega), bit_eq h1 (show i ≤ 22 by omega), Option.bind_some, w64 (show -9223372036854775808 ≤ (i : Int) + 1 by omega) (by omega), w64 (show -9223372036854775808 ≤ (k : Int) + 1 by omega) (by omega)]
    simp only [xword]
    cases hk2 : isCk i
    · refine Ev.neg (by simp) ?_
      simp only [Bool.false_eq_true, if_false]
      have hb := and_bit (lt62 hc) (show i - 1 ≤ 61 by omega)
      cases ht : c.testBit (i - 1)
      · refine Ev.pos (hb.mpr ht) ?_
        exact word_loop hc x n (i + 1) (k + 1) w (by omega) (by omega) (by omega) (by omega)
      · refine Ev.neg (fun h => by rw [hb] at h; rw [h] at ht; cases ht) (Ev.pos (by omega) ?_)
        rw [shl_bit (show k ≤ 61 by omega), or_nat (show w < 2 ^ 62 by omega) (show 2 ^ k < 2 ^ 62 by omega), or_bit_lt hw]
        exact word_loop hc x n (i + 1) (k + 1) _ (by omega) (by omega) (by omega) (Nat.xor_lt_two_pow (by omega) h2)
    · refine Ev.pos rfl ?_
      exact word_loop hc x n (i + 1) k w (by omega) (by omega) (by omega) hw
theorem decoded_ev {c : Nat} (hc : c < 2 ^ 22) : Ev (fun k => memory_Decoded.f k (c : Int)) ((((decodedN c).1 : Nat) : Int), (((decodedN c).2.1 : Nat) : Int), (((decodedN c).2.2 : Nat) : Int)) := by
  have hb := kind_bounds c
  unfold memory_Decoded.f
  simp only [In_eq, Option.bind_some, decide_eq_true_eq]
  refine Ev.pos (by omega) ?_
  refine Ev.bind (kind_ev hc) ?_
  unfold decodedN
  by_cases h3 : (kindN c).1 = 3
  · refine Ev.pos (by omega) ?_
    rw [if_pos h3]
    exact Ev.now _
  · refine Ev.neg (by omega) ?_
    refine Ev.bind (repaired_ev hc) ?_
    rw [if_neg h3]
    have := word_loop (repaired_lt hc) (((kindN c).1 : Nat) : Int) 21 1 0 0 rfl (by decide) (by decide) (by decide)
    rw [w64 (by omega) (by omega), show (((kindN c).1 : Nat) : Int) - 1 = (((kindN c).1 - 1 : Nat) : Int) by omega] at this
    exact this
theorem awake_ev : Ev (fun k => perigeelaw3_awake.f k) true := by
  unfold perigeelaw3_awake.f
  refine Ev.bind (coded_ev 1) ?_
  have h : codedN 1 = 2097159 := by decide +kernel
  refine Ev.pos rfl (Ev.some ?_)
  rw [if_pos ⟨by decide, by decide⟩]
  show (((codedN 1 : Nat) : Int) == 2097159) = true
  rw [h]; rfl
theorem within_eq (a lo hi : Int) : perigeeref3_within.f a lo hi = some (decide (lo ≤ a ∧ a ≤ hi)) := by
  unfold perigeeref3_within.f
  split
  · rename_i h; simp [h]
  · rename_i h; simp [h]
theorem isCheck_eq {i : Nat} (h1 : 1 ≤ i) (h : i ≤ 21) : perigeeref3_isCheck.f (i : Int) = some (isCk i) := by
  have : ∀ i : Fin 22, 1 ≤ i.val → perigeeref3_isCheck.f ((i.val : Nat) : Int) = some (isCk i.val) := by decide +kernel
  exact this ⟨i, by omega⟩ h1
theorem has_eq {c i : Nat} (hc : c < 2 ^ 22) (h1 : 1 ≤ i) (h : i ≤ 22) : perigeeref3_has.f (c : Int) (i : Int) = some (c.testBit (i - 1)) := by
  unfold perigeeref3_has.f
  rw [w64 (by omega) (by omega), if_pos (by omega), show (i : Int) - 1 = ((i - 1 : Nat) : Int) by omega, shr_bit (lt62 hc) (by omega)]
  cases c.testBit (i - 1) <;> rfl
theorem rmark_loop {c : Nat} (hc : c < 2 ^ 22) : ∀ (n i m : Nat), i + n = 22 → 1 ≤ i → m < 32 → Ev (fun k => perigeeref3_mark.l0 k (c : Int) (m : Int) (i : Int)) ((xmark n i c m : Nat) : Int)
  | 0, i, m, hi, _, _ => by
    refine Ev.step (fun k => by rw [perigeeref3_mark.l0]) ?_
    exact Ev.neg (by omega) (Ev.now _)
  | n + 1, i, m, hi, h1, hm => by
    refine Ev.step (fun k => by rw [perigeeref3_mark.l0]) ?_
    simp only [has_eq hc h1 (show i ≤ 22 by omega), Option.bind_some, w64 (show -9223372036854775808 ≤ (i : Int) + 1 by omega) (by omega)]
    refine Ev.pos (by omega) ?_
    simp only [xmark]
    cases ht : c.testBit (i - 1)
    · exact Ev.neg (by simp) (rmark_loop hc n (i + 1) m (by omega) (by omega) hm)
    · refine Ev.pos rfl ?_
      rw [xor_nat (by omega) (by omega)]
      exact rmark_loop hc n (i + 1) (m ^^^ i) (by omega) (by omega) (Nat.xor_lt_two_pow (n := 5) hm (by omega))
theorem rmark_ev {c : Nat} (hc : c < 2 ^ 22) : Ev (fun k => perigeeref3_mark.f k (c : Int)) ((markN c : Nat) : Int) := by
  unfold perigeeref3_mark.f
  exact rmark_loop hc 21 1 0 rfl (by decide) (by decide)
theorem rodd_loop {c : Nat} (hc : c < 2 ^ 22) : ∀ (n i : Nat) (b : Bool), i + n = 23 → 1 ≤ i → Ev (fun k => perigeeref3_odd.l0 k (c : Int) b (i : Int)) (xodd n i c b)
  | 0, i, b, hi, _ => by
    refine Ev.step (fun k => by rw [perigeeref3_odd.l0]) ?_
    exact Ev.neg (by omega) (Ev.now _)
  | n + 1, i, b, hi, h1 => by
    refine Ev.step (fun k => by rw [perigeeref3_odd.l0]) ?_
    simp only [has_eq hc h1 (show i ≤ 22 by omega), Option.bind_some, w64 (show -9223372036854775808 ≤ (i : Int) + 1 by omega) (by omega)]
    refine Ev.pos (by omega) ?_
    exact rodd_loop hc n (i + 1) _ (by omega) (by omega)
theorem rodd_ev {c : Nat} (hc : c < 2 ^ 22) : Ev (fun k => perigeeref3_odd.f k (c : Int)) (oddN c) := by
  unfold perigeeref3_odd.f
  exact rodd_loop hc 22 1 false rfl (by decide)
theorem rcoded_tail {w c : Nat} (hw : w < 2 ^ 16) (hc : c = dataN w) : Ev (fun k => perigeeref3_coded.l1 k (c : Int) ((markN c : Nat) : Int) 0) ((codedN w : Nat) : Int) := by
  obtain ⟨h0, h1, h3, h7, h15⟩ := ck_bits hw
  subst hc
  have hd := dataN_lt w
  have hm := markN_lt (dataN w)
  have two : ∀ j : Fin 5, (2 ^ j.val : Nat) - 1 < 22 ∧ IntKind.u64.wrap (shl .u64 1 ((j.val : Nat) : Int) - 1) = (((2 ^ j.val : Nat) - 1 : Nat) : Int) := by decide +kernel
  have lg : ∀ (i j : Nat), i = 2 ^ j → i.log2 = j := by
    intro i j h; rw [h, Nat.log2_two_pow]
  have main := coded_checks (g := fun k c i => (perigeeref3_coded.l1 k c ((markN (dataN w) : Nat) : Int) (i.log2 : Int)).bind fun z => some (z, (0 : Int))) (r := (((codedN w : Nat) : Int), 0)) (Nat.lt_trans hd (by decide)) hm h0 h1 h3 h7 h15 ?_ ?_
  · obtain ⟨K, hK⟩ := main
    refine ⟨K, fun k hk => ?_⟩
    have := hK k hk
    obtain ⟨z, hz, hz2⟩ := Option.bind_eq_some_iff.mp this
    have e : z = ((codedN w : Nat) : Int) := (Prod.mk.inj (Option.some.inj hz2)).1
    rw [e] at hz
    exact hz
  · intro c i j hc hi hj r H0 H1
    have ht2 := two ⟨j, hj⟩
    simp only at ht2
    have hlg1 : (2 ^ (j + 1)).log2 = j + 1 := lg _ _ rfl
    simp only [hlg1] at H0 H1
    simp only [lg i j hi]
    refine Ev.step (f := fun k => ((if (j : Int) < 5 then (if 0 ≤ (j : Int) then (if (Go.bits .and .i64 (shr .i64 ((markN (dataN w) : Nat) : Int) (j : Int)) 1) = 1 then (if 0 ≤ (IntKind.u64.wrap ((shl .u64 1 (j : Int)) - 1)) then (perigeeref3_coded.l1 k (Go.bits .or .i64 (c : Int) (shl .i64 1 (IntKind.u64.wrap ((shl .u64 1 (j : Int)) - 1)))) ((markN (dataN w) : Nat) : Int) (wrap64 ((j : Int) + 1))) else (none)) else (perigeeref3_coded.l1 k (c : Int) ((markN (dataN w) : Nat) : Int) (wrap64 ((j : Int) + 1)))) else (none)) else none : Option Int)).bind fun z => some (z, (0 : Int))) (fun k => by rw [perigeeref3_coded.l1]; simp [show (j : Int) < 5 by omega]) ?_
    simp only [if_pos (show (j : Int) < 5 by omega), if_pos (show (0 : Int) ≤ (j : Int) by omega), shr_bit (c := markN (dataN w)) (j := j) (by omega) (by omega), w64 (show -9223372036854775808 ≤ (j : Int) + 1 by omega) (by omega), ht2.2]
    rw [show (j : Int) + 1 = ((j + 1 : Nat) : Int) by omega]
    cases ht : (markN (dataN w)).testBit j
    · simp only [Bool.false_eq_true, if_false, if_neg (show ¬ (0 : Int) = 1 by decide)]
      exact H0 ht
    · have hp : (2 : Nat) ^ (2 ^ j - 1) < 2 ^ 22 := Nat.pow_lt_pow_right (by decide) ht2.1
      have h1 := H1 ht
      rw [hi] at h1
      simp only [if_true, if_pos (show (0 : Int) ≤ ((2 ^ j - 1 : Nat) : Int) by omega), shl_bit (j := 2 ^ j - 1) (by omega), or_nat (lt62 hc) (lt62 hp)]
      exact h1
  · have hl := code1_lt w
    simp only [show (32 : Nat).log2 = 5 by decide]
    refine Ev.bind (a := ((codedN w : Nat) : Int)) ?_ (Ev.now _)
    refine Ev.step (fun k => by rw [perigeeref3_coded.l1]) ?_
    refine Ev.neg (by decide) ?_
    refine Ev.bind (rodd_ev (c := dataN w ^^^ ckN (markN (dataN w))) (Nat.lt_trans hl (by decide))) ?_
    unfold codedN
    simp only
    cases ho : oddN (dataN w ^^^ ckN (markN (dataN w)))
    · exact Ev.neg (by simp) (Ev.now _)
    · refine Ev.pos rfl (Ev.some ?_)
      simp only [if_true]
      have := or_nat (a := dataN w ^^^ ckN (markN (dataN w))) (b := 2 ^ 21) (by omega) (by decide)
      rw [or_bit_lt hl] at this
      exact this
theorem rdata_loop {w0 : Nat} (hw0 : w0 < 2 ^ 16) : ∀ (n i w c : Nat), i + n = 22 → 1 ≤ i → w < 2 ^ 16 → c < 2 ^ (i - 1) → xdata n i w c = dataN w0 →
    Ev (fun k => perigeeref3_coded.l0 k (w : Int) (c : Int) (i : Int)) ((codedN w0 : Nat) : Int)
  | 0, i, w, c, hi, _, _, _, he => by
    refine Ev.step (fun k => by rw [perigeeref3_coded.l0]) ?_
    refine Ev.neg (by omega) ?_
    simp only [xdata] at he
    have hcl : c < 2 ^ 22 := by rw [he]; exact Nat.lt_trans (dataN_lt w0) (by decide)
    exact Ev.bind (rmark_ev hcl) (rcoded_tail hw0 he)
  | n + 1, i, w, c, hi, h1, hw, hc, he => by
    have h2 : (2 : Nat) ^ (i - 1) < 2 ^ i := Nat.pow_lt_pow_right (by decide) (by omega)
    have h3 : (2 : Nat) ^ i ≤ 2 ^ 21 := Nat.pow_le_pow_right (by decide) (by omega)
    refine Ev.step (fun k => by rw [perigeeref3_coded.l0]) ?_
    refine Ev.pos (by omega) ?_
    simp only [isCheck_eq h1 (show i ≤ 21 by omega), Option.bind_some, w64 (show -9223372036854775808 ≤ (i : Int) + 1 by omega) (by omega), w64 (show -9223372036854775808 ≤ (i : Int) - 1 by omega) (by omega)]
    simp only [xdata] at he
    cases hk : isCk i
    · rw [hk] at he
      simp only [Bool.false_eq_true, if_false] at he
      refine Ev.neg (by simp) ?_
      rw [and_one (by omega), show (w : Int) / 2 = ((w / 2 : Nat) : Int) by omega]
      rcases Nat.mod_two_eq_zero_or_one w with hm | hm
      · rw [hm] at he ⊢
        refine Ev.neg (by decide) ?_
        exact rdata_loop hw0 n (i + 1) (w / 2) c (by omega) (by omega) (by omega) (by simp; omega) (by simpa using he)
      · rw [hm] at he ⊢
        refine Ev.pos rfl (Ev.pos (by omega) ?_)
        rw [show (i : Int) - 1 = ((i - 1 : Nat) : Int) by omega, shl_bit (show i - 1 ≤ 61 by omega), or_nat (show c < 2 ^ 62 by omega) (show 2 ^ (i - 1) < 2 ^ 62 by omega), or_bit_lt hc]
        exact rdata_loop hw0 n (i + 1) (w / 2) _ (by omega) (by omega) (by omega) (by simp only [Nat.add_sub_cancel]; exact Nat.xor_lt_two_pow (by omega) h2) (by simpa using he)
    · rw [hk] at he
      refine Ev.pos rfl ?_
      exact rdata_loop hw0 n (i + 1) w c (by omega) (by omega) hw (by simp; omega) (by simpa using he)
theorem rcoded0_ev {w : Nat} (hw : w < 2 ^ 16) : Ev (fun k => perigeeref3_coded.f k (w : Int)) ((codedN w : Nat) : Int) := by
  unfold perigeeref3_coded.f
  exact rdata_loop hw 21 1 w 0 rfl (by decide) hw (by decide) rfl
theorem rkind_ev {c : Nat} (hc : c < 2 ^ 22) : Ev (fun k => perigeeref3_kind.f k (c : Int)) ((((kindN c).1 : Nat) : Int), (((kindN c).2 : Nat) : Int)) := by
  unfold perigeeref3_kind.f
  refine Ev.bind (rmark_ev hc) (Ev.bind (rodd_ev hc) ?_)
  unfold kindN
  cases ho : oddN c
  · refine Ev.neg (by simp) ?_
    refine Ev.step (fun k => by rw [perigeeref3_kind.j0]) ?_
    by_cases hm : markN c = 0
    · exact Ev.pos (by simp [hm]) (Ev.some (by simp [hm]))
    · refine Ev.neg (by simp [hm]) (Ev.bind (rodd_ev hc) ?_)
      rw [ho]
      refine Ev.neg (by simp) ?_
      refine Ev.step (fun k => by rw [perigeeref3_kind.j1]) ?_
      exact Ev.pos rfl (Ev.some (by simp [hm]))
  · refine Ev.pos rfl ?_
    refine Ev.step (fun k => by rw [perigeeref3_kind.j0]) (Ev.neg (by simp) (Ev.bind (rodd_ev hc) ?_))
    rw [ho]
    refine Ev.pos rfl ?_
    refine Ev.step (fun k => by rw [perigeeref3_kind.j1]) ?_
    by_cases h22 : markN c < 22
    · refine Ev.neg (by simp; omega) ?_
      by_cases hm : markN c = 0
      · exact Ev.pos (by omega) (Ev.some (by simp [hm]))
      · exact Ev.neg (by omega) (Ev.some (by simp [hm, h22]))
    · have hm : ¬ markN c = 0 := by omega
      exact Ev.pos (by simp; omega) (Ev.some (by simp [hm, h22]))
theorem rright_ev {c : Nat} (hc : c < 2 ^ 22) : Ev (fun k => perigeeref3_right.f k (c : Int)) (if (kindN c).1 = 3 then (0, 0, 15) else (((repairedN c : Nat) : Int), (((kindN c).1 - 1 : Nat) : Int), 0)) := by
  have hb := kind_bounds c
  unfold perigeeref3_right.f
  refine Ev.bind (rkind_ev hc) ?_
  unfold repairedN
  by_cases h3 : (kindN c).1 = 3
  · rw [if_pos h3]
    exact Ev.pos (by omega) (Ev.now _)
  · rw [if_neg h3]
    refine Ev.neg (by omega) ?_
    by_cases h2 : (kindN c).1 = 2
    · have h4 := hb.2.2.2 h2
      have h5 : (2 : Nat) ^ ((kindN c).2 - 1) < 2 ^ 22 := Nat.pow_lt_pow_right (by decide) (by omega)
      rw [w64 (by omega) (by omega), show (((kindN c).2 : Nat) : Int) - 1 = (((kindN c).2 - 1 : Nat) : Int) by omega, shl_bit (by omega), xor_nat (lt62 hc) (lt62 h5), if_pos h2]
      exact Ev.pos (by omega) (Ev.pos (by omega) (Ev.some (by rw [h2]; rfl)))
    · have h1 : (kindN c).1 = 1 := by omega
      rw [if_neg h2]
      exact Ev.neg (by omega) (Ev.some (by rw [h1]; rfl))
theorem rword_loop {c : Nat} (hc : c < 2 ^ 22) (x : Int) : ∀ (n i k w : Nat), i + n = 22 → 1 ≤ i → k < i → w < 2 ^ k →
    Ev (fun q => perigeeref3_decoded.l0 q (c : Int) x (w : Int) (k : Int) (i : Int)) (((xword n i c k w : Nat) : Int), x, 0)
  | 0, i, k, w, hi, _, _, _ => by
    refine Ev.step (fun k => by rw [perigeeref3_decoded.l0]) ?_
    exact Ev.neg (by omega) (Ev.now _)
  | n + 1, i, k, w, hi, h1, hk, hw => by
    have h2 : (2 : Nat) ^ k < 2 ^ (k + 1) := Nat.pow_lt_pow_right (by decide) (by omega)
    have h3 : (2 : Nat) ^ k ≤ 2 ^ 21 := Nat.pow_le_pow_right (by decide) (by omega)
    refine Ev.step (fun k => by rw [perigeeref3_decoded.l0]) ?_
    refine Ev.pos (by omega) ?_
    simp only [isCheck_eq h1 (show i ≤ 21 by omega), has_eq hc h1 (show i ≤ 22 by omega), Option.bind_some, w64 (show -9223372036854775808 ≤ (i : Int) + 1 by omega) (by omega), w64 (show -9223372036854775808 ≤ (k : Int) + 1 by omega) (by omega)]
    simp only [xword]
    cases hk2 : isCk i
    · refine Ev.neg (by simp) ?_
      simp only [Bool.false_eq_true, if_false]
      cases ht : c.testBit (i - 1)
      · exact Ev.neg (by simp) (rword_loop hc x n (i + 1) (k + 1) w (by omega) (by omega) (by omega) (by omega))
      · refine Ev.pos rfl (Ev.pos (by omega) ?_)
        rw [shl_bit (show k ≤ 61 by omega), or_nat (show w < 2 ^ 62 by omega) (show 2 ^ k < 2 ^ 62 by omega), or_bit_lt hw]
        exact rword_loop hc x n (i + 1) (k + 1) _ (by omega) (by omega) (by omega) (Nat.xor_lt_two_pow (by omega) h2)
    · refine Ev.pos rfl ?_
      exact rword_loop hc x n (i + 1) k w (by omega) (by omega) (by omega) hw
theorem rdecoded_ev {c : Nat} (hc : c < 2 ^ 22) : Ev (fun k => perigeeref3_decoded.f k (c : Int)) ((((decodedN c).1 : Nat) : Int), (((decodedN c).2.1 : Nat) : Int), (((decodedN c).2.2 : Nat) : Int)) := by
  unfold perigeeref3_decoded.f
  refine Ev.bind (rright_ev hc) ?_
  unfold decodedN
  by_cases h3 : (kindN c).1 = 3
  · simp only [if_pos h3]
    exact Ev.neg (by decide) (Ev.now _)
  · simp only [if_neg h3]
    refine Ev.pos (by simp) ?_
    exact rword_loop (repaired_lt hc) _ 21 1 0 0 rfl (by decide) (by decide) (by decide)
theorem range_eq (a lo hi : Int) : kit_Range.f a lo hi = some (if lo ≤ a ∧ a ≤ hi then 0 else 1) := by
  unfold kit_Range.f
  rw [In_eq, Option.bind_some]
  by_cases h : lo ≤ a ∧ a ≤ hi
  · simp [h]
  · simp only [decide_eq_false h, Bool.false_eq_true, if_false, if_neg h]
def firstS : List Int → Int
  | [] => 0
  | a :: t => if a = 0 then firstS t else a
theorem first_loop (l : List Int) (hl : l.length ≤ 1000) : ∀ (t pre : List Int), l = pre ++ t → Ev (fun k => kit_First.l0 k l l.length pre.length) (firstS t)
  | [], pre, hp => by
    refine Ev.step (fun k => by rw [kit_First.l0]) ?_
    exact Ev.neg (by rw [hp]; simp) (Ev.now _)
  | a :: t, pre, hp => by
    have hlen : pre.length < l.length := by rw [hp]; simp
    have hrd : rd l pre.length = a := by rw [hp]; exact rd_mid ..
    refine Ev.step (fun k => by rw [kit_First.l0]) ?_
    simp only [hrd]
    refine Ev.pos (by omega) (Ev.pos (by omega) (Ev.pos (by omega) ?_))
    unfold firstS
    by_cases h : a = 0
    · rw [if_pos h]
      refine Ev.pos h ?_
      have hw : wrap64 ((pre.length : Int) + 1) = ((pre ++ [a]).length : Int) := by rw [w64 (by omega) (by omega)]; simp
      rw [hw]
      exact first_loop l hl t (pre ++ [a]) (by simp [hp])
    · rw [if_neg h]
      exact Ev.neg h (Ev.now _)
theorem first_ev (l : List Int) (hl : l.length ≤ 1000) : Ev (fun k => kit_First.f k l) (firstS l) := first_loop l hl l [] rfl
theorem equal_loop (x y : List Int) (hx : x.length ≤ 17592186044416) (hxy : x.length = y.length) :
    ∀ (s t pre qre : List Int), x = pre ++ s → y = qre ++ t → pre.length = qre.length →
      Ev (fun k => slices_Equal_int_int.l0 k x y x.length pre.length) (decide (s = t))
  | [], t, pre, qre, hp, hq, h => by
    have ht : t = [] := by
      have := hxy; rw [hp, hq] at this
      simp only [List.length_append, List.length_nil] at this
      exact List.eq_nil_of_length_eq_zero (by omega)
    refine Ev.step (fun k => by rw [slices_Equal_int_int.l0]) ?_
    exact Ev.neg (by rw [hp]; simp) (Ev.some (by rw [ht]; rfl))
  | m :: s, [], pre, qre, hp, hq, h => by
    have := hxy; rw [hp, hq] at this
    simp only [List.length_append, List.length_nil, List.length_cons] at this
    omega
  | m :: s, n :: t, pre, qre, hp, hq, h => by
    have hlen : pre.length < x.length := by rw [hp]; simp
    have hrd : rd x pre.length = m := by rw [hp]; exact rd_mid ..
    have hrd' : rd y pre.length = n := by rw [hq]; exact rd_mid' _ _ _ (by omega)
    refine Ev.step (fun k => by rw [slices_Equal_int_int.l0]) ?_
    simp only [hrd, hrd']
    refine Ev.pos (by omega) (Ev.pos (by omega) (Ev.pos (by omega) (Ev.pos (by omega) ?_)))
    by_cases e : m = n
    · have hw : wrap64 ((pre.length : Int) + 1) = ((pre ++ [m]).length : Int) := by rw [w64 (by omega) (by omega)]; simp
      rw [hw]
      refine Ev.pos e ?_
      have := equal_loop x y hx hxy s t (pre ++ [m]) (qre ++ [n]) (by simp [hp]) (by simp [hq]) (by simp [h])
      rw [show decide (m :: s = n :: t) = decide (s = t) by simp [e]]
      exact this
    · refine Ev.neg e (Ev.some ?_)
      simp [e]
theorem equal_ev (x y : List Int) (hx : x.length ≤ 17592186044416) : Ev (fun k => slices_Equal_int_int.f k x y) (decide (x = y)) := by
  unfold slices_Equal_int_int.f
  by_cases h : x.length = y.length
  · refine Ev.pos (by omega) ?_
    exact equal_loop x y hx h x y [] [] rfl rfl rfl
  · refine Ev.neg (by omega) (Ev.some ?_)
    simp only [Bool.false_eq, decide_eq_false_iff_not]
    rintro rfl
    exact h rfl
theorem same_ev {c s d t : List Int} (hc : c.length ≤ 17592186044416) (hs : s.length ≤ 17592186044416) : Ev (fun k => perigeeref3_Same.f k c s d t) (decide (c = d ∧ s = t)) := by
  unfold perigeeref3_Same.f
  refine Ev.bind (equal_ev c d hc) ?_
  by_cases h : c = d
  · refine Ev.pos (by simpa using h) (Ev.bind (equal_ev s t hs) (Ev.some ?_))
    simp [h]
  · exact Ev.neg (by simpa using h) (Ev.some (by simp [h]))
def inC (x : Int) : Prop := 0 ≤ x ∧ x ≤ 4194303
def inW (x : Int) : Prop := 0 ≤ x ∧ x ≤ 65535
instance (x : Int) : Decidable (inC x) := by unfold inC; exact inferInstance
instance (x : Int) : Decidable (inW x) := by unfold inW; exact inferInstance
def bankGo : List Int → List Int → Int
  | [], _ => 0
  | _ :: _, [] => 1
  | c :: cs, s :: ss => if inC c ∧ inW s then bankGo cs ss else 1
def bankS (c s : List Int) : Int := if c.length = 0 then 9 else if c.length > 2000 then 2 else if s.length = c.length then bankGo c s else 3
theorem bankGo_ok : ∀ (c s : List Int), bankGo c s = 0 → (∀ x ∈ c, inC x)
  | [], _, _, x, hx => by cases hx
  | a :: cs, [], h, _, _ => by cases h
  | a :: cs, b :: ss, h, x, hx => by
    unfold bankGo at h
    split at h
    · rename_i h1
      rcases List.mem_cons.mp hx with rfl | hx
      · exact h1.1
      · exact bankGo_ok cs ss h x hx
    · cases h
theorem bankGo_ok2 : ∀ (c s : List Int), bankGo c s = 0 → s.length = c.length → (∀ x ∈ s, inW x)
  | [], [], _, _, x, hx => by cases hx
  | [], b :: ss, _, h, _, _ => by simp at h
  | a :: cs, [], h, _, _, _ => by cases h
  | a :: cs, b :: ss, h, hl, x, hx => by
    unfold bankGo at h
    split at h
    · rename_i h1
      rcases List.mem_cons.mp hx with rfl | hx
      · exact h1.2
      · exact bankGo_ok2 cs ss h (by simpa using hl) x hx
    · cases h
theorem bankS_ok {c s : List Int} (h : bankS c s = 0) : 0 < c.length ∧ c.length ≤ 2000 ∧ s.length = c.length ∧ (∀ x ∈ c, inC x) ∧ (∀ x ∈ s, inW x) := by
  unfold bankS at h
  split at h
  · cases h
  · split at h
    · cases h
    · split at h
      · rename_i h3
        exact ⟨by omega, by omega, h3, bankGo_ok c s h, bankGo_ok2 c s h h3⟩
      · cases h
theorem bank_loop (c0 s0 : List Int) (hl : c0.length ≤ 2000) (hs : s0.length = c0.length) : ∀ (c s pre qre : List Int), c0 = pre ++ c → s0 = qre ++ s → pre.length = qre.length →
    Ev (fun k => memory_CheckBank.l0 k c0 c0.length pre.length c0 s0) (bankGo c s)
  | [], s, pre, qre, hp, hq, h => by
    refine Ev.step (fun k => by rw [memory_CheckBank.l0]) ?_
    exact Ev.neg (by rw [hp]; simp) (Ev.some (by simp [bankGo]))
  | a :: c, [], pre, qre, hp, hq, h => by
    rw [hp, hq] at hs
    simp only [List.length_append, List.length_nil, List.length_cons] at hs
    omega
  | a :: c, b :: s, pre, qre, hp, hq, h => by
    have hlen : pre.length < c0.length := by rw [hp]; simp
    have hrd : rd c0 pre.length = a := by rw [hp]; exact rd_mid ..
    have hrd' : rd s0 pre.length = b := by rw [hq]; exact rd_mid' _ _ _ (by omega)
    have hw : wrap64 ((pre.length : Int) + 1) = ((pre ++ [a]).length : Int) := by rw [w64 (by omega) (by omega)]; simp
    refine Ev.step (fun k => by rw [memory_CheckBank.l0]) ?_
    simp only [hrd, hrd', In_eq, Option.bind_some, decide_eq_true_eq]
    refine Ev.pos (by omega) (Ev.pos (by omega) (Ev.pos (by omega) ?_))
    unfold bankGo
    by_cases c1 : inC a
    · refine Ev.pos c1 (Ev.pos (by omega) ?_)
      by_cases c2 : inW b
      · rw [if_pos ⟨c1, c2⟩, hw]
        exact Ev.pos c2 (bank_loop c0 s0 hl hs c s (pre ++ [a]) (qre ++ [b]) (by simp [hp]) (by simp [hq]) (by simp [h]))
      · rw [if_neg (fun e => c2 e.2)]
        exact Ev.neg c2 (Ev.now _)
    · rw [if_neg (fun e => c1 e.1)]
      exact Ev.neg c1 (Ev.now _)
theorem bank_ev (c s : List Int) : Ev (fun k => memory_CheckBank.f k c s) (bankS c s) := by
  unfold memory_CheckBank.f bankS
  by_cases h0 : c.length = 0
  · rw [if_pos h0]
    exact Ev.pos (by omega) (Ev.now _)
  · rw [if_neg h0]
    refine Ev.neg (by omega) ?_
    by_cases h1 : c.length > 2000
    · rw [if_pos h1]
      exact Ev.pos (by omega) (Ev.now _)
    · rw [if_neg h1]
      refine Ev.neg (by omega) ?_
      by_cases h2 : s.length = c.length
      · rw [if_pos h2]
        exact Ev.pos (by omega) (bank_loop c s (by omega) h2 c s [] [] rfl rfl rfl)
      · rw [if_neg h2]
        exact Ev.neg (by omega) (Ev.now _)
theorem clone_eq {l : List Int} (h : l.length < 17592186044416) : slices_Clone_int_int.f l = some l := by
  unfold slices_Clone_int_int.f
  rw [Option.bind_some, if_pos (by simpa using h)]
  rfl
theorem rd_in {c : List Int} (hc : ∀ x ∈ c, inC x) {i : Int} (h0 : 0 ≤ i) (h1 : i < c.length) : inC (rd c i) := by
  unfold rd
  rw [List.getD_eq_getElem?_getD, List.getElem?_eq_getElem (by omega)]
  exact hc _ (List.getElem_mem _)
theorem copied_eq {c s : List Int} (hc : c.length < 17592186044416) (hs : s.length < 17592186044416) : memory_copied.f c s = some (c, s) := by
  unfold memory_copied.f
  rw [clone_eq hc, clone_eq hs]; rfl
def placeS (c s : List Int) (i : Int) : Int := if bankS c s = 0 then (if 0 ≤ i ∧ i < c.length then 0 else 9) else bankS c s
theorem place_ev (c s : List Int) (i : Int) : Ev (fun k => memory_place.f k c s i) (placeS c s i) := by
  unfold memory_place.f placeS
  refine Ev.bind (bank_ev c s) ?_
  by_cases h : bankS c s = 0
  · refine Ev.pos h ?_
    rw [if_pos h]
    obtain ⟨h0, h1, _⟩ := bankS_ok h
    simp only [In_eq, w64 (show -9223372036854775808 ≤ (c.length : Int) - 1 by omega) (by omega), Option.bind_some, decide_eq_true_eq]
    by_cases hi : 0 ≤ i ∧ i < c.length
    · rw [if_pos hi]
      exact Ev.pos (by omega) (Ev.now _)
    · rw [if_neg hi]
      exact Ev.neg (by omega) (Ev.now _)
  · refine Ev.neg h ?_
    rw [if_neg h]
    exact Ev.now _
theorem rbank_loop (c0 s0 : List Int) (hl : c0.length ≤ 2000) (hs : s0.length = c0.length) : ∀ (c s pre qre : List Int), c0 = pre ++ c → s0 = qre ++ s → pre.length = qre.length →
    Ev (fun k => perigeeref3_CheckBank.l0 k c0 c0.length pre.length c0 s0) (bankGo c s)
  | [], s, pre, qre, hp, hq, h => by
    refine Ev.step (fun k => by rw [perigeeref3_CheckBank.l0]) ?_
    exact Ev.neg (by rw [hp]; simp) (Ev.some (by simp [bankGo]))
  | a :: c, [], pre, qre, hp, hq, h => by
    rw [hp, hq] at hs
    simp only [List.length_append, List.length_nil, List.length_cons] at hs
    omega
  | a :: c, b :: s, pre, qre, hp, hq, h => by
    have hlen : pre.length < c0.length := by rw [hp]; simp
    have hrd : rd c0 pre.length = a := by rw [hp]; exact rd_mid ..
    have hrd' : rd s0 pre.length = b := by rw [hq]; exact rd_mid' _ _ _ (by omega)
    have hw : wrap64 ((pre.length : Int) + 1) = ((pre ++ [a]).length : Int) := by rw [w64 (by omega) (by omega)]; simp
    refine Ev.step (fun k => by rw [perigeeref3_CheckBank.l0]) ?_
    simp only [hrd, hrd', within_eq, Option.bind_some, decide_eq_true_eq]
    refine Ev.pos (by omega) (Ev.pos (by omega) (Ev.pos (by omega) ?_))
    unfold bankGo
    by_cases c1 : inC a
    · refine Ev.pos c1 (Ev.pos (by omega) ?_)
      by_cases c2 : inW b
      · rw [if_pos ⟨c1, c2⟩, hw]
        exact Ev.pos c2 (rbank_loop c0 s0 hl hs c s (pre ++ [a]) (qre ++ [b]) (by simp [hp]) (by simp [hq]) (by simp [h]))
      · rw [if_neg (fun e => c2 e.2)]
        exact Ev.neg c2 (Ev.now _)
    · rw [if_neg (fun e => c1 e.1)]
      exact Ev.neg c1 (Ev.now _)
theorem rbank_ev (c s : List Int) : Ev (fun k => perigeeref3_CheckBank.f k c s) (bankS c s) := by
  unfold perigeeref3_CheckBank.f bankS
  by_cases h0 : c.length = 0
  · rw [if_pos h0]
    exact Ev.pos (by omega) (Ev.now _)
  · rw [if_neg h0]
    refine Ev.neg (by omega) ?_
    by_cases h1 : c.length > 2000
    · rw [if_pos h1]
      exact Ev.pos (by omega) (Ev.now _)
    · rw [if_neg h1]
      refine Ev.neg (by omega) ?_
      by_cases h2 : s.length = c.length
      · rw [if_pos h2]
        exact Ev.pos (by omega) (rbank_loop c s (by omega) h2 c s [] [] rfl rfl rfl)
      · rw [if_neg h2]
        exact Ev.neg (by omega) (Ev.now _)
theorem isPlace_eq {c s : List Int} {i : Int} (h0 : 0 < c.length) (h1 : c.length ≤ 2000) : perigeeref3_isPlace.f c s i = some (decide (0 ≤ i ∧ i < c.length)) := by
  unfold perigeeref3_isPlace.f
  rw [within_eq, w64 (by omega) (by omega), Option.bind_some]
  congr 1
  simp only [decide_eq_decide]
  omega
theorem rcopied_eq {c s : List Int} (hc : c.length < 17592186044416) (hs : s.length < 17592186044416) : perigeeref3_copied.f c s = some (c, s) := by
  unfold perigeeref3_copied.f
  rw [clone_eq hc, clone_eq hs]; rfl
def decI (x : Int) : Int × Int × Int := ((((decodedN x.toNat).1 : Nat) : Int), (((decodedN x.toNat).2.1 : Nat) : Int), (((decodedN x.toNat).2.2 : Nat) : Int))
theorem dec_evI {x : Int} (h : inC x) : Ev (fun k => memory_Decoded.f k x) (decI x) := by
  obtain ⟨c, rfl⟩ := Int.eq_ofNat_of_zero_le h.1
  exact decoded_ev (by have := h.2; omega)
def readS (c s : List Int) (i : Int) : Int × Int × Int := if placeS c s i = 0 then decI (rd c i) else (0, 0, placeS c s i)
theorem read_ev (c s : List Int) (i : Int) : Ev (fun k => memory_ReadAt.f k c s i) (readS c s i) := by
  unfold memory_ReadAt.f
  refine Ev.bind (place_ev c s i) ?_
  unfold readS
  by_cases h : placeS c s i = 0
  · rw [if_pos h]
    refine Ev.pos h ?_
    have hi : bankS c s = 0 ∧ 0 ≤ i ∧ i < c.length := by
      unfold placeS at h
      split at h
      · rename_i hb
        split at h
        · rename_i hi; exact ⟨hb, hi⟩
        · cases h
      · rename_i hb; exact absurd h hb
    obtain ⟨b0, b1, b2, b3, b4⟩ := bankS_ok hi.1
    exact Ev.pos hi.2.1 (Ev.pos hi.2.2 (Ev.bind (dec_evI (rd_in b3 hi.2.1 hi.2.2)) (Ev.now _)))
  · rw [if_neg h]
    exact Ev.neg h (Ev.now _)
theorem placeS_zero {c s : List Int} {i : Int} : placeS c s i = 0 ↔ bankS c s = 0 ∧ 0 ≤ i ∧ i < c.length := by
  unfold placeS
  constructor
  · intro h
    by_cases hb : bankS c s = 0
    · rw [if_pos hb] at h
      by_cases hi : 0 ≤ i ∧ i < c.length
      · exact ⟨hb, hi⟩
      · rw [if_neg hi] at h; cases h
    · rw [if_neg hb] at h; exact absurd h hb
  · rintro ⟨hb, hi⟩
    rw [if_pos hb, if_pos hi]
def writtenS (c s : List Int) (i w : Int) : List Int × List Int × Int :=
  if placeS c s i = 0 then (if 0 ≤ w ∧ w ≤ 65535 then (c.set i.toNat ((codedN w.toNat : Nat) : Int), s.set i.toNat w, 0) else ([], [], 1)) else ([], [], placeS c s i)
theorem written_ev (c s : List Int) (i w : Int) : Ev (fun k => memory_Written.f k c s i w) (writtenS c s i w) := by
  unfold memory_Written.f writtenS
  refine Ev.bind (place_ev c s i) ?_
  by_cases h : placeS c s i = 0
  · refine Ev.pos h ?_
    rw [if_pos h]
    obtain ⟨hb, h0, h1⟩ := placeS_zero.mp h
    obtain ⟨b0, b1, b2, b3, b4⟩ := bankS_ok hb
    refine Ev.bind (coded_ev w) ?_
    by_cases hw : 0 ≤ w ∧ w ≤ 65535
    · simp only [if_pos hw, copied_eq (c := c) (s := s) (by omega) (by omega), Option.bind_some]
      exact Ev.pos (by trivial) (Ev.pos h0 (Ev.pos h1 (Ev.pos (by omega) (Ev.now _))))
    · simp only [if_neg hw]
      exact Ev.neg (by decide) (Ev.now _)
  · refine Ev.neg h ?_
    rw [if_neg h]
    exact Ev.now _
def flipI (x n : Int) : Int := ((x.toNat ^^^ 2 ^ (n.toNat - 1) : Nat) : Int)
theorem flip_bit {x n : Int} (hx : inC x) (h0 : 1 ≤ n) (h1 : n ≤ 22) : Go.bits .xor .i64 x ((2 ^ (n.toNat - 1) : Nat) : Int) = flipI x n := by
  obtain ⟨c, rfl⟩ := Int.eq_ofNat_of_zero_le hx.1
  have h4 : (2 : Nat) ^ (n.toNat - 1) < 2 ^ 22 := Nat.pow_lt_pow_right (by decide) (by omega)
  rw [xor_nat (lt62 (by have := hx.2; omega)) (lt62 h4)]
  rfl
theorem bit_evI {n : Int} (h0 : 1 ≤ n) (h1 : n ≤ 22) : memory_bit.f n = some ((2 ^ (n.toNat - 1) : Nat) : Int) := by
  obtain ⟨m, rfl⟩ := Int.eq_ofNat_of_zero_le (show 0 ≤ n by omega)
  exact bit_eq (by omega) (by omega)
def flippedS (c s : List Int) (i n : Int) : List Int × List Int × Int :=
  if placeS c s i = 0 then (if 1 ≤ n ∧ n ≤ 22 then (c.set i.toNat (flipI (rd c i) n), s, 0) else ([], [], 1)) else ([], [], placeS c s i)
theorem flipped_ev (c s : List Int) (i n : Int) : Ev (fun k => memory_Flipped.f k c s i n) (flippedS c s i n) := by
  unfold memory_Flipped.f flippedS
  refine Ev.bind (place_ev c s i) ?_
  simp only [range_eq, Option.bind_some]
  refine Ev.bind (first_ev _ (by simp)) ?_
  by_cases h : placeS c s i = 0
  · rw [if_pos h]
    obtain ⟨hb, h0, h1⟩ := placeS_zero.mp h
    obtain ⟨b0, b1, b2, b3, b4⟩ := bankS_ok hb
    by_cases hn : 1 ≤ n ∧ n ≤ 22
    · refine Ev.pos (by simp [firstS, h, hn]) ?_
      rw [if_pos hn]
      simp only [copied_eq (c := c) (s := s) (by omega) (by omega), Option.bind_some, bit_evI hn.1 hn.2, flip_bit (rd_in b3 h0 h1) hn.1 hn.2]
      exact Ev.pos h0 (Ev.pos h1 (Ev.now _))
    · refine Ev.neg (by simp [firstS, h, hn]) ?_
      rw [if_neg hn]
      exact Ev.some (by simp [firstS, h, hn])
  · rw [if_neg h]
    refine Ev.neg (by simp [firstS, h]) (Ev.some ?_)
    simp [firstS, h]
theorem rwritten_ev (c s : List Int) (i w : Int) : Ev (fun k => perigeeref3_Written.f k c s i w) (writtenS c s i w) := by
  unfold perigeeref3_Written.f writtenS
  refine Ev.bind (rbank_ev c s) ?_
  by_cases hb : bankS c s = 0
  · obtain ⟨b0, b1, b2, b3, b4⟩ := bankS_ok hb
    refine Ev.pos hb ?_
    simp only [isPlace_eq (c := c) (s := s) b0 b1, within_eq, Option.bind_some, decide_eq_true_eq]
    by_cases hi : 0 ≤ i ∧ i < c.length
    · have hp : placeS c s i = 0 := placeS_zero.mpr ⟨hb, hi⟩
      refine Ev.pos hi ?_
      rw [if_pos hp]
      by_cases hw : 0 ≤ w ∧ w ≤ 65535
      · refine Ev.pos hw ?_
        rw [if_pos hw]
        obtain ⟨n, rfl⟩ := Int.eq_ofNat_of_zero_le hw.1
        simp only [rcopied_eq (c := c) (s := s) (by omega) (by omega), Option.bind_some]
        exact Ev.bind (rcoded0_ev (w := n) (by omega)) (Ev.pos hi.1 (Ev.pos hi.2 (Ev.pos (by omega) (Ev.now _))))
      · refine Ev.neg hw ?_
        rw [if_neg hw]
        exact Ev.now _
    · refine Ev.neg hi (Ev.some ?_)
      have hp : placeS c s i = 9 := by unfold placeS; rw [if_pos hb, if_neg hi]
      rw [hp]; rfl
  · refine Ev.neg hb (Ev.some ?_)
    have hp : placeS c s i = bankS c s := by unfold placeS; rw [if_neg hb]
    rw [hp, if_neg hb]
theorem rflipped_ev (c s : List Int) (i n : Int) : Ev (fun k => perigeeref3_Flipped.f k c s i n) (flippedS c s i n) := by
  unfold perigeeref3_Flipped.f flippedS
  refine Ev.bind (rbank_ev c s) ?_
  by_cases hb : bankS c s = 0
  · obtain ⟨b0, b1, b2, b3, b4⟩ := bankS_ok hb
    refine Ev.pos hb ?_
    simp only [isPlace_eq (c := c) (s := s) b0 b1, within_eq, Option.bind_some, decide_eq_true_eq]
    by_cases hi : 0 ≤ i ∧ i < c.length
    · have hp : placeS c s i = 0 := placeS_zero.mpr ⟨hb, hi⟩
      refine Ev.pos hi ?_
      rw [if_pos hp]
      by_cases hn : 1 ≤ n ∧ n ≤ 22
      · refine Ev.pos hn ?_
        rw [if_pos hn]
        have e : shl .i64 1 (wrap64 (n - 1)) = ((2 ^ (n.toNat - 1) : Nat) : Int) := by
          rw [w64 (by omega) (by omega), show n - 1 = ((n.toNat - 1 : Nat) : Int) by omega, shl_bit (by omega)]
        simp only [rcopied_eq (c := c) (s := s) (by omega) (by omega), Option.bind_some, e, flip_bit (rd_in b3 hi.1 hi.2) hn.1 hn.2]
        exact Ev.pos hi.1 (Ev.pos hi.2 (Ev.pos (by rw [w64 (by omega) (by omega)]; omega) (Ev.now _)))
      · refine Ev.neg hn ?_
        rw [if_neg hn]
        exact Ev.now _
    · refine Ev.neg hi (Ev.some ?_)
      have hp : placeS c s i = 9 := by unfold placeS; rw [if_pos hb, if_neg hi]
      rw [hp]; rfl
  · refine Ev.neg hb (Ev.some ?_)
    have hp : placeS c s i = bankS c s := by unfold placeS; rw [if_neg hb]
    rw [hp, if_neg hb]
theorem rdec_evI {x : Int} (h : inC x) : Ev (fun k => perigeeref3_decoded.f k x) (decI x) := by
  obtain ⟨c, rfl⟩ := Int.eq_ofNat_of_zero_le h.1
  exact rdecoded_ev (by have := h.2; omega)
theorem rread_ev (c s : List Int) (i : Int) : Ev (fun k => perigeeref3_ReadAt.f k c s i) (readS c s i) := by
  unfold perigeeref3_ReadAt.f readS
  refine Ev.bind (rbank_ev c s) ?_
  by_cases hb : bankS c s = 0
  · obtain ⟨b0, b1, b2, b3, b4⟩ := bankS_ok hb
    refine Ev.pos hb ?_
    simp only [isPlace_eq (c := c) (s := s) b0 b1, Option.bind_some, decide_eq_true_eq]
    by_cases hi : 0 ≤ i ∧ i < c.length
    · have hp : placeS c s i = 0 := placeS_zero.mpr ⟨hb, hi⟩
      refine Ev.pos hi ?_
      rw [if_pos hp]
      exact Ev.pos hi.1 (Ev.pos hi.2 (Ev.bind (rdec_evI (rd_in b3 hi.1 hi.2)) (Ev.now _)))
    · refine Ev.neg hi (Ev.some ?_)
      have hp : placeS c s i = 9 := by unfold placeS; rw [if_pos hb, if_neg hi]
      rw [hp]; rfl
  · refine Ev.neg hb (Ev.some ?_)
    have hp : placeS c s i = bankS c s := by unfold placeS; rw [if_neg hb]
    rw [hp, if_neg hb]
theorem writtenS_len {c s : List Int} {i w : Int} : (writtenS c s i w).1.length ≤ 2000 ∧ (writtenS c s i w).2.1.length ≤ 2000 := by
  unfold writtenS
  by_cases h : placeS c s i = 0
  · rw [if_pos h]
    obtain ⟨b0, b1, b2, b3, b4⟩ := bankS_ok (placeS_zero.mp h).1
    split
    · simp only [List.length_set]; omega
    · simp
  · rw [if_neg h]; simp
theorem flippedS_len {c s : List Int} {i n : Int} : (flippedS c s i n).1.length ≤ 2000 ∧ (flippedS c s i n).2.1.length ≤ 2000 := by
  unfold flippedS
  by_cases h : placeS c s i = 0
  · rw [if_pos h]
    obtain ⟨b0, b1, b2, b3, b4⟩ := bankS_ok (placeS_zero.mp h).1
    split
    · simp only [List.length_set]; omega
    · simp
  · rw [if_neg h]; simp
theorem MemoryBanksMatchSpec : perigeelaw3_MemoryBanksMatchSpec.Pure := by
  intro c s i w n _ _ _ _ _
  refine Ev.rounds (g := fun k => perigeelaw3_MemoryBanksMatchSpec.f k c s i w n) ?_
  unfold perigeelaw3_MemoryBanksMatchSpec.f
  have l1 := writtenS_len (c := c) (s := s) (i := i) (w := w)
  have l2 := flippedS_len (c := c) (s := s) (i := i) (n := n)
  refine Ev.bind (written_ev ..) (Ev.bind (rwritten_ev ..) (Ev.bind (bank_ev ..) (Ev.bind (rbank_ev ..) (Ev.pos rfl (Ev.pos rfl (Ev.bind (same_ev (by omega) (by omega)) ?_))))))
  refine Ev.step (fun k => by rw [perigeelaw3_MemoryBanksMatchSpec.j0]) (Ev.neg (by simp) ?_)
  refine Ev.bind (flipped_ev ..) (Ev.bind (rflipped_ev ..) (Ev.pos rfl (Ev.bind (same_ev (by omega) (by omega)) ?_)))
  refine Ev.step (fun k => by rw [perigeelaw3_MemoryBanksMatchSpec.j1]) (Ev.neg (by simp) ?_)
  exact Ev.bind (read_ev ..) (Ev.bind (rread_ev ..) (Ev.pos rfl (Ev.pos rfl (Ev.pos rfl (Ev.bind awake_ev (Ev.now _))))))

end Go.Proofs.Ythlgdgmpmjfiiaa.Pure
