/- A word that was written is read, and all others as before: for every bank, every place, every word and every other place; no condition. -/
import Derived.Laws.BitsAllLaws
import Derived.Test.YthlgdgmpmjfiiaaQMemoryWrittenIsReadx3
import Derived.Test.YthlgdgmpmjfiiaaWSized
set_option linter.unusedVariables false
set_option linter.unusedSimpArgs false
/-- The printed row names this lemma without the seat's own words' namespace. -/
abbrev Go.Proofs.Ythlgdgmpmjfiiaa.PrintWords.sized_ints := @Go.Proofs.YthlgdgmpmjfiiaaW.PrintWords.sized_ints
namespace Go.Proofs.Ythlgdgmpmjfiiaa.Pure
open Go.RowKit Go.Proofs.Ythlgdgmpmjfiiaa.QMemoryWrittenIsRead Go.Proofs.YthlgdgmpmjfiiaaW.PrintWords Go.Proofs.YthlgdgmpmjfiiaaW.PrintLast Go.Proofs.YthlgdgmpmjfiiaaW.PrintMore

theorem w64 {x : Int} (h0 : -9223372036854775808 ≤ x) (h1 : x ≤ 9223372036854775807) : wrap64 x = x := by unfold wrap64; omega
theorem rd_mid (pre : List Int) (n : Int) (t : List Int) : rd (pre ++ n :: t) (pre.length : Int) = n := by
  simp [rd]
theorem rd_mid' (pre : List Int) (n : Int) (t : List Int) {i : Int} (hi : i = (pre.length : Int)) : rd (pre ++ n :: t) i = n := by
  subst hi; exact rd_mid pre n t
theorem Ev.pos {α : Type} {c : Prop} [Decidable c] {f g : Nat → Option α} {r : α} (h : c) (k : Ev f r) : Ev (fun n => if c then f n else g n) r := by
  simp only [if_pos h]; exact k
theorem Ev.neg {α : Type} {c : Prop} [Decidable c] {f g : Nat → Option α} {r : α} (h : ¬ c) (k : Ev g r) : Ev (fun n => if c then f n else g n) r := by
  simp only [if_neg h]; exact k
theorem Ev.some {α : Type} {a r : α} (h : a = r) : Ev (fun _ => Option.some a) r := by subst h; exact Ev.now _
def isCk (i : Nat) : Bool := i == 1 || i == 2 || i == 4 || i == 8 || i == 16
def xmark : Nat → Nat → Nat → Nat → Nat
  | 0, _, _, m => m
  | n + 1, i, c, m => xmark n (i + 1) c (if c.testBit (i - 1) then m ^^^ i else m)
def xodd : Nat → Nat → Nat → Bool → Bool
  | 0, _, _, b => b
  | n + 1, i, c, b => xodd n (i + 1) c (b != c.testBit (i - 1))
def xdata : Nat → Nat → Nat → Nat → Nat
  | 0, _, _, c => c
  | n + 1, i, w, c => if isCk i then xdata n (i + 1) w c else xdata n (i + 1) (w / 2) (if w % 2 = 1 then c ^^^ 2 ^ (i - 1) else c)
def xword : Nat → Nat → Nat → Nat → Nat → Nat
  | 0, _, _, _, w => w
  | n + 1, i, c, k, w => if isCk i then xword n (i + 1) c k w else xword n (i + 1) c (k + 1) (if c.testBit (i - 1) then w ^^^ 2 ^ k else w)
def xck : Nat → Nat → Nat → Nat → Nat
  | 0, _, _, c => c
  | n + 1, j, m, c => xck n (j + 1) m (if m.testBit j then c ^^^ 2 ^ (2 ^ j - 1) else c)
def markN (c : Nat) : Nat := xmark 21 1 c 0
def oddN (c : Nat) : Bool := xodd 22 1 c false
def dataN (w : Nat) : Nat := xdata 21 1 w 0
def wordN (c : Nat) : Nat := xword 21 1 c 0 0
def ckN (m : Nat) : Nat := xck 5 0 m 0
def codedN (w : Nat) : Nat :=
  let c := dataN w ^^^ ckN (markN (dataN w))
  if oddN c then c ^^^ 2 ^ 21 else c
def kindN (c : Nat) : Nat × Nat :=
  if oddN c = true ∧ markN c = 0 then (2, 22) else if oddN c = true ∧ markN c < 22 then (2, markN c) else if oddN c = true ∨ markN c ≠ 0 then (3, 0) else (1, 0)
def repairedN (c : Nat) : Nat := if (kindN c).1 = 2 then c ^^^ 2 ^ ((kindN c).2 - 1) else c
/-- The word, how many bits were put right, the fault. -/
def decodedN (c : Nat) : Nat × Nat × Nat := if (kindN c).1 = 3 then (0, 0, 15) else (wordN (repairedN c), (kindN c).1 - 1, 0)

theorem xor_mix (a b c d : Nat) : (a ^^^ b) ^^^ (c ^^^ d) = (a ^^^ c) ^^^ (b ^^^ d) := by ac_rfl
theorem xmark_lin : ∀ (n i c d m k : Nat), xmark n i (c ^^^ d) (m ^^^ k) = xmark n i c m ^^^ xmark n i d k
  | 0, _, _, _, _, _ => rfl
  | n + 1, i, c, d, m, k => by
    simp only [xmark, Nat.testBit_xor]
    rw [← xmark_lin n]
    congr 1
    cases hc : c.testBit (i - 1) <;> cases hd : d.testBit (i - 1) <;> simp
    · ac_rfl
    · ac_rfl
    · rw [xor_mix, Nat.xor_self, Nat.xor_zero]
theorem markN_lin (c d : Nat) : markN (c ^^^ d) = markN c ^^^ markN d := xmark_lin 21 1 c d 0 0
theorem xodd_lin : ∀ (n i c d : Nat) (a b : Bool), xodd n i (c ^^^ d) (a != b) = (xodd n i c a != xodd n i d b)
  | 0, _, _, _, _, _ => rfl
  | n + 1, i, c, d, a, b => by
    simp only [xodd, Nat.testBit_xor]
    rw [← xodd_lin n]
    congr 1
    cases a <;> cases b <;> cases c.testBit (i - 1) <;> cases d.testBit (i - 1) <;> rfl
theorem oddN_lin (c d : Nat) : oddN (c ^^^ d) = (oddN c != oddN d) := xodd_lin 22 1 c d false false
theorem xor_mod2 (a b : Nat) : (a ^^^ b) % 2 = (a % 2 + b % 2) % 2 := by
  have h := Nat.xor_mod_two_pow (a := a) (b := b) (n := 1)
  simp only [Nat.pow_one] at h
  rw [h]
  rcases Nat.mod_two_eq_zero_or_one a with h1 | h1 <;> rcases Nat.mod_two_eq_zero_or_one b with h2 | h2 <;> rw [h1, h2] <;> rfl
theorem xor_div2 (a b : Nat) : (a ^^^ b) / 2 = a / 2 ^^^ b / 2 := by
  have h := Nat.xor_div_two_pow (a := a) (b := b) (n := 1)
  simpa using h
theorem xdata_lin : ∀ (n i w v c d : Nat), xdata n i (w ^^^ v) (c ^^^ d) = xdata n i w c ^^^ xdata n i v d
  | 0, _, _, _, _, _ => rfl
  | n + 1, i, w, v, c, d => by
    simp only [xdata]
    split
    · exact xdata_lin n ..
    · rw [← xdata_lin n, xor_div2, xor_mod2]
      congr 1
      rcases Nat.mod_two_eq_zero_or_one w with h1 | h1 <;> rcases Nat.mod_two_eq_zero_or_one v with h2 | h2 <;> simp [h1, h2]
      · ac_rfl
      · ac_rfl
      · rw [xor_mix, Nat.xor_self, Nat.xor_zero]
theorem dataN_lin (w v : Nat) : dataN (w ^^^ v) = dataN w ^^^ dataN v := xdata_lin 21 1 w v 0 0
theorem xword_lin : ∀ (n i c d k w v : Nat), xword n i (c ^^^ d) k (w ^^^ v) = xword n i c k w ^^^ xword n i d k v
  | 0, _, _, _, _, _, _ => rfl
  | n + 1, i, c, d, k, w, v => by
    simp only [xword]
    split
    · exact xword_lin n ..
    · rw [← xword_lin n, Nat.testBit_xor]
      congr 1
      cases hc : c.testBit (i - 1) <;> cases hd : d.testBit (i - 1) <;> simp
      · ac_rfl
      · ac_rfl
      · rw [xor_mix, Nat.xor_self, Nat.xor_zero]
theorem wordN_lin (c d : Nat) : wordN (c ^^^ d) = wordN c ^^^ wordN d := xword_lin 21 1 c d 0 0 0
theorem xck_lin : ∀ (n j m k c d : Nat), xck n j (m ^^^ k) (c ^^^ d) = xck n j m c ^^^ xck n j k d
  | 0, _, _, _, _, _ => rfl
  | n + 1, j, m, k, c, d => by
    simp only [xck]
    rw [← xck_lin n, Nat.testBit_xor]
    congr 1
    cases hc : m.testBit j <;> cases hd : k.testBit j <;> simp
    · ac_rfl
    · ac_rfl
    · rw [xor_mix, Nat.xor_self, Nat.xor_zero]
/-- Two maps that keep exclusive or are the same where they are so on the single bits. -/
theorem lin_ext {f g : Nat → Nat} (hf : ∀ a b, f (a ^^^ b) = f a ^^^ f b) (hg : ∀ a b, g (a ^^^ b) = g a ^^^ g b) : ∀ (n : Nat), (∀ j, j < n → f (2 ^ j) = g (2 ^ j)) → ∀ w, w < 2 ^ n → f w = g w
  | 0, _, w, hw => by
    obtain rfl : w = 0 := by simpa using hw
    have h1 := hf 0 0; have h2 := hg 0 0
    simp only [Nat.xor_self] at h1 h2
    rw [h1, h2]
  | n + 1, h, w, hw => by
    have ih := lin_ext hf hg n (fun j hj => h j (by omega))
    by_cases hb : w < 2 ^ n
    · exact ih w hb
    · have e : w = (w - 2 ^ n) ^^^ 2 ^ n := by
        have h2 : w - 2 ^ n < 2 ^ n := by rw [Nat.pow_succ] at hw; omega
        have h3 : (w - 2 ^ n) ^^^ 2 ^ n = 2 ^ n + (w - 2 ^ n) := by
          have h4 := Nat.two_pow_add_eq_or_of_lt h2 1
          rw [Nat.mul_one] at h4
          rw [h4]
          apply Nat.eq_of_testBit_eq
          intro i
          rw [Nat.testBit_xor, Nat.testBit_or, Nat.testBit_two_pow]
          by_cases hi : n = i
          · subst hi; rw [Nat.testBit_lt_two_pow h2]; simp
          · simp [hi]
        omega
      rw [e, hf, hg, ih _ (by rw [Nat.pow_succ] at hw; omega), h n (by omega)]
theorem or_bit {a j : Nat} (h : a.testBit j = false) : a ||| 2 ^ j = a ^^^ 2 ^ j := by
  apply Nat.eq_of_testBit_eq
  intro i
  rw [Nat.testBit_xor, Nat.testBit_or, Nat.testBit_two_pow]
  by_cases hi : j = i
  · subst hi; rw [h]; simp
  · simp [hi]
theorem or_bit_lt {a j : Nat} (h : a < 2 ^ j) : a ||| 2 ^ j = a ^^^ 2 ^ j := or_bit (Nat.testBit_lt_two_pow h)
theorem mark_lt : ∀ (n i c m : Nat), i + n ≤ 32 → m < 32 → xmark n i c m < 32
  | 0, _, _, _, _, h => h
  | n + 1, i, c, m, hi, h => by
    simp only [xmark]
    apply mark_lt n (i + 1) c _ (by omega)
    split
    · exact Nat.xor_lt_two_pow (n := 5) h (by omega)
    · exact h
theorem markN_lt (c : Nat) : markN c < 32 := mark_lt 21 1 c 0 (by decide) (by decide)
theorem data_lt : ∀ (n i w c : Nat), 1 ≤ i → c < 2 ^ (i - 1) → xdata n i w c < 2 ^ (i - 1 + n)
  | 0, _, _, _, _, h => h
  | n + 1, i, w, c, hi, h => by
    have h2 : (2 : Nat) ^ (i - 1) < 2 ^ i := Nat.pow_lt_pow_right (by decide) (by omega)
    simp only [xdata]
    rw [show i - 1 + (n + 1) = (i + 1) - 1 + n by omega]
    split
    · exact data_lt n (i + 1) w c (by omega) (by simp; omega)
    · apply data_lt n (i + 1) _ _ (by omega)
      simp only [Nat.add_sub_cancel]
      split
      · exact Nat.xor_lt_two_pow (by omega) h2
      · omega
theorem dataN_lt (w : Nat) : dataN w < 2 ^ 21 := data_lt 21 1 w 0 (by decide) (by decide)
theorem ckN_lt {m : Nat} (h : m < 32) : ckN m < 2 ^ 16 := by
  have : ∀ m : Fin 32, ckN m.val < 2 ^ 16 := by decide +kernel
  exact this ⟨m, h⟩
theorem code1_lt (w : Nat) : dataN w ^^^ ckN (markN (dataN w)) < 2 ^ 21 := Nat.xor_lt_two_pow (dataN_lt w) (Nat.lt_trans (ckN_lt (markN_lt _)) (by decide))
theorem codedN_lt (w : Nat) : codedN w < 2 ^ 22 := by
  unfold codedN
  simp only
  split
  · exact Nat.xor_lt_two_pow (Nat.lt_trans (code1_lt w) (by decide)) (by decide)
  · exact Nat.lt_trans (code1_lt w) (by decide)
theorem mark_ck {m : Nat} (h : m < 32) : markN (ckN m) = m := by
  have : ∀ m : Fin 32, markN (ckN m.val) = m.val := by decide +kernel
  exact this ⟨m, h⟩
theorem word_ck {m : Nat} (h : m < 32) : wordN (ckN m) = 0 := by
  have : ∀ m : Fin 32, wordN (ckN m.val) = 0 := by decide +kernel
  exact this ⟨m, h⟩
theorem word_data {w : Nat} (h : w < 2 ^ 16) : wordN (dataN w) = w := by
  refine lin_ext (f := fun w => wordN (dataN w)) (g := fun w => w) (fun a b => by simp only [dataN_lin, wordN_lin]) (fun _ _ => rfl) 16 (fun j hj => ?_) w h
  have : ∀ j : Fin 16, wordN (dataN (2 ^ j.val)) = 2 ^ j.val := by decide +kernel
  exact this ⟨j, hj⟩
theorem data_ck {w : Nat} (h : w < 2 ^ 16) : dataN w &&& 32907 = 0 := by
  refine lin_ext (f := fun w => dataN w &&& 32907) (g := fun w => 0) (fun a b => by simp only [dataN_lin, Nat.and_xor_distrib_right]) (fun _ _ => rfl) 16 (fun j hj => ?_) w h
  have : ∀ j : Fin 16, dataN (2 ^ j.val) &&& 32907 = 0 := by decide +kernel
  exact this ⟨j, hj⟩
theorem mark_code1 (w : Nat) : markN (dataN w ^^^ ckN (markN (dataN w))) = 0 := by
  rw [markN_lin, mark_ck (markN_lt _), Nat.xor_self]
theorem mark_coded (w : Nat) : markN (codedN w) = 0 := by
  unfold codedN
  simp only
  split
  · rw [markN_lin, mark_code1, show markN (2 ^ 21) = 0 by decide +kernel]; rfl
  · exact mark_code1 w
theorem odd_coded (w : Nat) : oddN (codedN w) = false := by
  unfold codedN
  simp only
  split
  · rename_i h
    rw [oddN_lin, h, show oddN (2 ^ 21) = true by decide +kernel]; rfl
  · rename_i h
    simpa using h
theorem word_coded {w : Nat} (h : w < 2 ^ 16) : wordN (codedN w) = w := by
  have h1 : wordN (dataN w ^^^ ckN (markN (dataN w))) = w := by
    rw [wordN_lin, word_data h, word_ck (markN_lt _), Nat.xor_zero]
  unfold codedN
  simp only
  split
  · rw [wordN_lin, h1, show wordN (2 ^ 21) = 0 by decide +kernel, Nat.xor_zero]
  · exact h1
theorem kind_coded (w : Nat) : kindN (codedN w) = (1, 0) := by
  unfold kindN
  simp [mark_coded, odd_coded]
theorem kind_cases (c : Nat) : kindN c = (1, 0) ∨ (∃ a, 1 ≤ a ∧ a ≤ 22 ∧ kindN c = (2, a)) ∨ kindN c = (3, 0) := by
  unfold kindN
  split
  · exact .inr (.inl ⟨22, by decide, by decide, rfl⟩)
  · split
    · rename_i h1 h2
      exact .inr (.inl ⟨markN c, by have := h2.2; have : ¬ markN c = 0 := fun e => h1 ⟨h2.1, e⟩; omega, by omega, rfl⟩)
    · split
      · exact .inr (.inr rfl)
      · exact .inl rfl
theorem repaired_lt {c : Nat} (h : c < 2 ^ 22) : repairedN c < 2 ^ 22 := by
  unfold repairedN
  split
  · rename_i h2
    rcases kind_cases c with h1 | ⟨a, h3, h4, h1⟩ | h1
    · rw [h1] at h2; exact absurd h2 (by decide)
    · rw [h1]
      exact Nat.xor_lt_two_pow h (Nat.pow_lt_pow_right (by decide) (by omega))
    · rw [h1] at h2; exact absurd h2 (by decide)
  · exact h
theorem wrap_i64s (n : Int) (h₀ : 0 ≤ n) (h₁ : n < 2 ^ 62) : IntKind.i64.wrap n = n := by rw [IntKind.wrap_i64]; omega
theorem and_nat {a b : Nat} (ha : a < 2 ^ 62) (hb : b < 2 ^ 62) : Go.bits .and .i64 (a : Int) (b : Int) = ((a &&& b : Nat) : Int) := (bits_nat .i64 62 (by decide) wrap_i64s a b ha hb).1
theorem or_nat {a b : Nat} (ha : a < 2 ^ 62) (hb : b < 2 ^ 62) : Go.bits .or .i64 (a : Int) (b : Int) = ((a ||| b : Nat) : Int) := (bits_nat .i64 62 (by decide) wrap_i64s a b ha hb).2
theorem xor_nat {a b : Nat} (ha : a < 2 ^ 62) (hb : b < 2 ^ 62) : Go.bits .xor .i64 (a : Int) (b : Int) = ((a ^^^ b : Nat) : Int) := by
  have hx : a ^^^ b < 2 ^ 62 := Nat.xor_lt_two_pow ha hb
  have h1 : (BitVec.ofInt 64 (a : Int)).toNat = a := by
    rw [BitVec.ofInt_natCast, BitVec.toNat_ofNat]; exact Nat.mod_eq_of_lt (by omega)
  have h2 : (BitVec.ofInt 64 (b : Int)).toNat = b := by
    rw [BitVec.ofInt_natCast, BitVec.toNat_ofNat]; exact Nat.mod_eq_of_lt (by omega)
  show IntKind.i64.wrap ((BitVec.ofInt 64 (a : Int) ^^^ BitVec.ofInt 64 (b : Int)).toNat : Int) = _
  rw [BitVec.toNat_xor, h1, h2, IntKind.wrap_i64]
  omega
theorem two_pow_cast (j : Nat) : ((2 ^ j : Nat) : Int) = 2 ^ j := by simp
theorem shl_bit {j : Nat} (h : j ≤ 61) : shl .i64 1 (j : Int) = ((2 ^ j : Nat) : Int) := by
  have h2 : (2 : Nat) ^ j < 2 ^ 62 := Nat.pow_lt_pow_right (by decide) (by omega)
  unfold shl
  rw [Int.toNat_natCast, Nat.min_eq_left (by simp only [IntKind.bits]; omega), Int.one_mul, ← two_pow_cast]
  generalize 2 ^ j = m at h2 ⊢
  exact wrap_i64s _ (by omega) (by omega)
theorem and_bit {c j : Nat} (hc : c < 2 ^ 62) (hj : j ≤ 61) : (Go.bits .and .i64 (c : Int) ((2 ^ j : Nat) : Int) = 0) ↔ c.testBit j = false := by
  have h2 : (2 : Nat) ^ j < 2 ^ 62 := Nat.pow_lt_pow_right (by decide) (by omega)
  rw [and_nat hc h2, nat_bit, Nat.testBit_eq_decide_div_mod_eq]
  have h3 : 0 < 2 ^ j := Nat.two_pow_pos j
  rcases Nat.mod_two_eq_zero_or_one (c / 2 ^ j) with h | h
  · rw [h]; simp
  · rw [h, Nat.one_mul]
    generalize 2 ^ j = m at h3 ⊢
    simp
    omega
theorem and_one {w : Nat} (hw : w < 2 ^ 62) : Go.bits .and .i64 (w : Int) 1 = ((w % 2 : Nat) : Int) := by
  have h3 := and_nat (a := w) (b := 1) hw (by decide)
  rw [show ((1 : Nat) : Int) = 1 from rfl] at h3
  rw [h3, Nat.and_one_is_mod]
theorem In_eq (a lo hi : Int) : kit_In.f a lo hi = some (decide (lo ≤ a ∧ a ≤ hi)) := by
  unfold kit_In.f
  split
  · rename_i h; simp [h]
  · rename_i h; simp [h]
theorem check_eq {i : Nat} (h1 : 1 ≤ i) (h : i ≤ 21) : memory_check.f (i : Int) = some (isCk i) := by
  have : ∀ i : Fin 22, 1 ≤ i.val → memory_check.f ((i.val : Nat) : Int) = some (isCk i.val) := by decide +kernel
  exact this ⟨i, by omega⟩ h1
theorem bit_eq {i : Nat} (h1 : 1 ≤ i) (h : i ≤ 22) : memory_bit.f (i : Int) = some ((2 ^ (i - 1) : Nat) : Int) := by
  unfold memory_bit.f
  rw [w64 (by omega) (by omega), if_pos (by omega), show (i : Int) - 1 = ((i - 1 : Nat) : Int) by omega, shl_bit (by omega)]
theorem lt62 {c : Nat} (h : c < 2 ^ 22) : c < 2 ^ 62 := by omega
theorem mark_loop {c : Nat} (hc : c < 2 ^ 22) : ∀ (n i m : Nat), i + n = 22 → 1 ≤ i → m < 32 → Ev (fun k => memory_mark.l0 k (c : Int) (m : Int) (i : Int)) ((xmark n i c m : Nat) : Int)
  | 0, i, m, hi, _, _ => by
    refine Ev.step (fun k => by rw [memory_mark.l0]) ?_
    exact Ev.neg (by omega) (Ev.now _)
  | n + 1, i, m, hi, h1, hm => by
    refine Ev.step (fun k => by rw [memory_mark.l0]) ?_
    simp only [bit_eq h1 (show i ≤ 22 by omega), Option.bind_some, w64 (show -9223372036854775808 ≤ (i : Int) + 1 by omega) (by omega)]
    refine Ev.pos (by omega) ?_
    simp only [xmark]
    have hb := and_bit (lt62 hc) (show i - 1 ≤ 61 by omega)
    cases ht : c.testBit (i - 1)
    · refine Ev.pos (hb.mpr ht) ?_
      exact mark_loop hc n (i + 1) m (by omega) (by omega) hm
    · refine Ev.neg (fun h => by rw [hb] at h; rw [h] at ht; cases ht) ?_
      rw [xor_nat (by omega) (by omega)]
      exact mark_loop hc n (i + 1) (m ^^^ i) (by omega) (by omega) (Nat.xor_lt_two_pow (n := 5) hm (by omega))
theorem mark_ev {c : Nat} (hc : c < 2 ^ 22) : Ev (fun k => memory_mark.f k (c : Int)) ((markN c : Nat) : Int) := by
  unfold memory_mark.f
  exact mark_loop hc 21 1 0 rfl (by decide) (by decide)
def sw1 (b : Nat) : Nat := (b / 2 &&& 85) + (b &&& 85)
def sw2 (b : Nat) : Nat := (b / 4 &&& 51) + (b &&& 51)
def sw3 (b : Nat) : Nat := (b / 16 + b) &&& 15
def pc8 (b : Nat) : Nat := sw3 (sw2 (sw1 b))
theorem and_split (a b m n k : Nat) (ha : a < 2 ^ k) (hm : m < 2 ^ k) : (a + 2 ^ k * b) &&& (m + 2 ^ k * n) = (a &&& m) + 2 ^ k * (b &&& n) := by
  have hp := Nat.two_pow_pos k
  have h1 := Nat.div_add_mod ((a + 2 ^ k * b) &&& (m + 2 ^ k * n)) (2 ^ k)
  rw [Nat.and_mod_two_pow, Nat.and_div_two_pow, Nat.add_mul_mod_self_left, Nat.add_mul_mod_self_left, Nat.mod_eq_of_lt ha, Nat.mod_eq_of_lt hm, Nat.add_mul_div_left _ _ hp, Nat.add_mul_div_left _ _ hp, Nat.div_eq_of_lt ha, Nat.div_eq_of_lt hm, Nat.zero_add, Nat.zero_add] at h1
  omega
theorem and3 (a b c m : Nat) (ha : a < 256) (hb : b < 256) (hc : c < 256) (hm : m < 256) : (a + 256 * b + 65536 * c) &&& (m + 256 * m + 65536 * m + 16777216 * (m + 256 * m + 65536 * m + 16777216 * m + 4294967296 * m)) = (a &&& m) + 256 * (b &&& m) + 65536 * (c &&& m) := by
  have e1 : a + 256 * b + 65536 * c = a + 2 ^ 8 * (b + 2 ^ 8 * c) := by omega
  have e2 : m + 256 * m + 65536 * m + 16777216 * (m + 256 * m + 65536 * m + 16777216 * m + 4294967296 * m) = m + 2 ^ 8 * (m + 2 ^ 8 * (m + 2 ^ 8 * (m + 256 * m + 65536 * m + 16777216 * m + 4294967296 * m))) := by omega
  rw [e1, e2, and_split _ _ _ _ 8 (by omega) (by omega), and_split _ _ _ _ 8 (by omega) (by omega)]
  have e3 := and_split c 0 m (m + 256 * m + 65536 * m + 16777216 * m + 4294967296 * m) 8 (by omega) (by omega)
  rw [Nat.zero_and, Nat.mul_zero, Nat.add_zero, Nat.add_zero] at e3
  rw [e3]
  omega
theorem b85 : ∀ b : Fin 256, ∀ t : Fin 2, (b.val / 2 + 128 * t.val) &&& 85 = b.val / 2 &&& 85 := by decide +kernel
theorem b51 : ∀ b : Fin 256, ∀ t : Fin 4, (b.val / 4 + 64 * t.val) &&& 51 = b.val / 4 &&& 51 := by decide +kernel
theorem sw1_lt : ∀ b : Fin 256, sw1 b.val < 256 ∧ (sw2 (sw1 b.val) < 69 ∧ sw2 (sw1 b.val) % 16 < 5) ∧ pc8 b.val < 9 := by decide +kernel
theorem ones_eq {c : Nat} (hc : c < 2 ^ 22) : bits_OnesCount64.f (c : Int) = some ((pc8 (c % 256) + pc8 (c / 256 % 256) + pc8 (c / 65536) : Nat) : Int) := by
  obtain ⟨b0, b1, b2, hb0, hb1, hb2, rfl⟩ : ∃ b0 b1 b2 : Nat, b0 < 256 ∧ b1 < 256 ∧ b2 < 64 ∧ c = b0 + 256 * b1 + 65536 * b2 := ⟨c % 256, c / 256 % 256, c / 65536, by omega, by omega, by omega, by omega⟩
  rw [show (b0 + 256 * b1 + 65536 * b2) % 256 = b0 by omega, show (b0 + 256 * b1 + 65536 * b2) / 256 % 256 = b1 by omega, show (b0 + 256 * b1 + 65536 * b2) / 65536 = b2 by omega]
  have l0 := sw1_lt ⟨b0, hb0⟩; have l1 := sw1_lt ⟨b1, hb1⟩; have l2 := sw1_lt ⟨b2, by omega⟩
  unfold pc8
  simp only [pc8] at l0 l1 l2
  have hs1 : ((b0 + 256 * b1 + 65536 * b2) / 2 &&& 6148914691236517205) + ((b0 + 256 * b1 + 65536 * b2) &&& 6148914691236517205) = sw1 b0 + 256 * sw1 b1 + 65536 * sw1 b2 := by
    have s1 := and3 (b0 / 2 + 128 * (b1 % 2)) (b1 / 2 + 128 * (b2 % 2)) (b2 / 2) 85 (by omega) (by omega) (by omega) (by omega)
    rw [b85 ⟨b0, hb0⟩ ⟨b1 % 2, by omega⟩, b85 ⟨b1, hb1⟩ ⟨b2 % 2, by omega⟩] at s1
    have t1 := and3 b0 b1 b2 85 hb0 hb1 (by omega) (by omega)
    simp only [Nat.reduceMul, Nat.reduceAdd] at s1 t1
    rw [show (b0 + 256 * b1 + 65536 * b2) / 2 = b0 / 2 + 128 * (b1 % 2) + 256 * (b1 / 2 + 128 * (b2 % 2)) + 65536 * (b2 / 2) by omega, s1, t1]
    unfold sw1; omega
  have e1 : IntKind.u64.wrap (Go.bits .and .u64 (((b0 + 256 * b1 + 65536 * b2 : Nat) : Int) / 2) 6148914691236517205 + Go.bits .and .u64 ((b0 + 256 * b1 + 65536 * b2 : Nat) : Int) 6148914691236517205) = ((sw1 b0 + 256 * sw1 b1 + 65536 * sw1 b2 : Nat) : Int) := by
    have h1 := u64_and_nat ((b0 + 256 * b1 + 65536 * b2) / 2) 6148914691236517205 (by omega) (by decide)
    have h2 := u64_and_nat (b0 + 256 * b1 + 65536 * b2) 6148914691236517205 (by omega) (by decide)
    rw [Int.natCast_ediv] at h1
    simp only [Int.cast_ofNat_Int] at h1 h2
    rw [h1, h2, IntKind.wrap_u64, ← Int.natCast_add, hs1]
    omega
  unfold bits_OnesCount64.f
  rw [e1]
  generalize sw1 b0 = y0 at l0 ⊢
  generalize sw1 b1 = y1 at l1 ⊢
  generalize sw1 b2 = y2 at l2 ⊢
  clear e1 hs1
  have hs2 : ((y0 + 256 * y1 + 65536 * y2) / 4 &&& 3689348814741910323) + ((y0 + 256 * y1 + 65536 * y2) &&& 3689348814741910323) = sw2 y0 + 256 * sw2 y1 + 65536 * sw2 y2 := by
    have s2 := and3 (y0 / 4 + 64 * (y1 % 4)) (y1 / 4 + 64 * (y2 % 4)) (y2 / 4) 51 (by omega) (by omega) (by omega) (by omega)
    rw [b51 ⟨y0, by omega⟩ ⟨y1 % 4, by omega⟩, b51 ⟨y1, by omega⟩ ⟨y2 % 4, by omega⟩] at s2
    have t2 := and3 y0 y1 y2 51 (by omega) (by omega) (by omega) (by omega)
    simp only [Nat.reduceMul, Nat.reduceAdd] at s2 t2
    rw [show (y0 + 256 * y1 + 65536 * y2) / 4 = y0 / 4 + 64 * (y1 % 4) + 256 * (y1 / 4 + 64 * (y2 % 4)) + 65536 * (y2 / 4) by omega, s2, t2]
    unfold sw2; omega
  have e2 : IntKind.u64.wrap (Go.bits .and .u64 (((y0 + 256 * y1 + 65536 * y2 : Nat) : Int) / 4) 3689348814741910323 + Go.bits .and .u64 ((y0 + 256 * y1 + 65536 * y2 : Nat) : Int) 3689348814741910323) = ((sw2 y0 + 256 * sw2 y1 + 65536 * sw2 y2 : Nat) : Int) := by
    have h1 := u64_and_nat ((y0 + 256 * y1 + 65536 * y2) / 4) 3689348814741910323 (by omega) (by decide)
    have h2 := u64_and_nat (y0 + 256 * y1 + 65536 * y2) 3689348814741910323 (by omega) (by decide)
    rw [Int.natCast_ediv] at h1
    simp only [Int.cast_ofNat_Int] at h1 h2
    rw [h1, h2, IntKind.wrap_u64, ← Int.natCast_add, hs2]
    omega
  rw [e2]
  generalize sw2 y0 = z0 at l0 ⊢
  generalize sw2 y1 = z1 at l1 ⊢
  generalize sw2 y2 = z2 at l2 ⊢
  clear e2 hs2
  have b15 : ∀ z : Fin 69, ∀ t : Fin 5, (z.val / 16 + z.val + 16 * t.val) &&& 15 = (z.val / 16 + z.val) &&& 15 := by decide +kernel
  have hs3 : ((z0 + 256 * z1 + 65536 * z2) / 16 + (z0 + 256 * z1 + 65536 * z2)) &&& 1085102592571150095 = sw3 z0 + 256 * sw3 z1 + 65536 * sw3 z2 := by
    have s3 := and3 (z0 / 16 + z0 + 16 * (z1 % 16)) (z1 / 16 + z1 + 16 * (z2 % 16)) (z2 / 16 + z2) 15 (by omega) (by omega) (by omega) (by omega)
    rw [b15 ⟨z0, by omega⟩ ⟨z1 % 16, by omega⟩, b15 ⟨z1, by omega⟩ ⟨z2 % 16, by omega⟩] at s3
    simp only [Nat.reduceMul, Nat.reduceAdd] at s3
    rw [show (z0 + 256 * z1 + 65536 * z2) / 16 + (z0 + 256 * z1 + 65536 * z2) = z0 / 16 + z0 + 16 * (z1 % 16) + 256 * (z1 / 16 + z1 + 16 * (z2 % 16)) + 65536 * (z2 / 16 + z2) by omega, s3]
    rfl
  have e3 : Go.bits .and .u64 (IntKind.u64.wrap (((z0 + 256 * z1 + 65536 * z2 : Nat) : Int) / 16 + ((z0 + 256 * z1 + 65536 * z2 : Nat) : Int))) 1085102592571150095 = ((sw3 z0 + 256 * sw3 z1 + 65536 * sw3 z2 : Nat) : Int) := by
    have h1 := u64_and_nat ((z0 + 256 * z1 + 65536 * z2) / 16 + (z0 + 256 * z1 + 65536 * z2)) 1085102592571150095 (by omega) (by decide)
    rw [Int.natCast_add, Int.natCast_ediv] at h1
    simp only [Int.cast_ofNat_Int] at h1
    rw [IntKind.wrap_u64, Int.emod_eq_of_lt (by omega) (by omega), h1, hs3]
  rw [e3]
  clear e3 hs3 b15
  generalize sw3 z0 = p0 at l0 ⊢
  generalize sw3 z1 = p1 at l1 ⊢
  generalize sw3 z2 = p2 at l2 ⊢
  simp only [IntKind.wrap_u64]
  have d1 : ((p0 + 256 * p1 + 65536 * p2 : Nat) : Int) / 256 = ((p1 + 256 * p2 : Nat) : Int) := by omega
  have m1 : ((p0 + 256 * p1 + 65536 * p2 + (p1 + 256 * p2) : Nat) : Int) % 18446744073709551616 = ((p0 + 256 * p1 + 65536 * p2 + (p1 + 256 * p2) : Nat) : Int) := Int.emod_eq_of_lt (by omega) (by omega)
  rw [d1, ← Int.natCast_add, m1]
  have d2 : ((p0 + 256 * p1 + 65536 * p2 + (p1 + 256 * p2) : Nat) : Int) / 65536 = ((p2 : Nat) : Int) := by omega
  have m2 : ((p0 + 256 * p1 + 65536 * p2 + (p1 + 256 * p2) + p2 : Nat) : Int) % 18446744073709551616 = ((p0 + 256 * p1 + 65536 * p2 + (p1 + 256 * p2) + p2 : Nat) : Int) := Int.emod_eq_of_lt (by omega) (by omega)
  rw [d2, ← Int.natCast_add, m2]
  have d3 : ((p0 + 256 * p1 + 65536 * p2 + (p1 + 256 * p2) + p2 : Nat) : Int) / 4294967296 = 0 := by omega
  rw [d3, Int.add_zero, m2, w64 (by omega) (by omega)]
  clear d1 d2 d3 m1 m2
  have h := and_nat (a := p0 + 256 * p1 + 65536 * p2 + (p1 + 256 * p2) + p2) (b := 127) (by omega) (by decide)
  rw [show ((127 : Nat) : Int) = 127 from rfl, nat_mask7] at h
  rw [h]
  congr 2
  omega
theorem ones_parity {c : Nat} (hc : c < 2 ^ 22) : ((pc8 (c % 256) + pc8 (c / 256 % 256) + pc8 (c / 65536)) % 2 == 1) = oddN c := by
  have h0 : ∀ b : Fin 256, (pc8 b.val % 2 == 1) = oddN b.val ∧ oddN (256 * b.val) = oddN b.val ∧ (b.val < 64 → oddN (65536 * b.val) = oddN b.val) := by decide +kernel
  have k0 := h0 ⟨c % 256, by omega⟩; have k1 := h0 ⟨c / 256 % 256, by omega⟩; have k2 := h0 ⟨c / 65536, by omega⟩
  simp only at k0 k1 k2
  have e : c = (c % 256 ^^^ 256 * (c / 256 % 256)) ^^^ 65536 * (c / 65536) := by
    have e1 : c % 256 ^^^ 256 * (c / 256 % 256) = c % 256 + 256 * (c / 256 % 256) := by
      have := Nat.two_pow_add_eq_or_of_lt (i := 8) (b := c % 256) (by omega) (c / 256 % 256)
      apply Nat.eq_of_testBit_eq; intro i
      rw [show c % 256 + 256 * (c / 256 % 256) = 2 ^ 8 * (c / 256 % 256) + c % 256 by omega, this, show 256 * (c / 256 % 256) = 2 ^ 8 * (c / 256 % 256) by omega, Nat.testBit_xor, Nat.testBit_or, Nat.testBit_two_pow_mul]
      by_cases hi : 8 ≤ i
      · rw [Nat.testBit_lt_two_pow (show c % 256 < 2 ^ i from Nat.lt_of_lt_of_le (by omega) (Nat.pow_le_pow_right (n := 2) (by decide) hi))]; simp
      · simp [hi]
    rw [e1]
    have := Nat.two_pow_add_eq_or_of_lt (i := 16) (b := c % 256 + 256 * (c / 256 % 256)) (by omega) (c / 65536)
    apply Nat.eq_of_testBit_eq; intro i
    have e2 : c.testBit i = (2 ^ 16 * (c / 65536) + (c % 256 + 256 * (c / 256 % 256))).testBit i := by congr 1; omega
    rw [e2, this, show 65536 * (c / 65536) = 2 ^ 16 * (c / 65536) by omega, Nat.testBit_xor, Nat.testBit_or, Nat.testBit_two_pow_mul]
    by_cases hi : 16 ≤ i
    · rw [Nat.testBit_lt_two_pow (show c % 256 + 256 * (c / 256 % 256) < 2 ^ i from Nat.lt_of_lt_of_le (by omega) (Nat.pow_le_pow_right (n := 2) (by decide) hi))]; simp
    · simp [hi]
  have e3 : oddN c = ((oddN (c % 256) != oddN (256 * (c / 256 % 256))) != oddN (65536 * (c / 65536))) := by
    rw [← oddN_lin, ← oddN_lin, ← e]
  rw [e3, k1.2.1, k2.2.2 (by omega), ← k0.1, ← k1.1, ← k2.1]
  generalize pc8 (c % 256) = x; generalize pc8 (c / 256 % 256) = y; generalize pc8 (c / 65536) = z
  rcases Nat.mod_two_eq_zero_or_one x with hx | hx <;> rcases Nat.mod_two_eq_zero_or_one y with hy | hy <;> rcases Nat.mod_two_eq_zero_or_one z with hz | hz <;> simp [hx, hy, hz, Nat.add_mod]
theorem odd_eq {c : Nat} (hc : c < 2 ^ 22) : memory_odd.f (c : Int) = some (oddN c) := by
  unfold memory_odd.f bits_OnesCount.f
  rw [IntKind.wrap_u64, Int.emod_eq_of_lt (by omega) (by omega), ones_eq hc, Option.bind_some, Option.bind_some, ← ones_parity hc]
  generalize pc8 (c % 256) + pc8 (c / 256 % 256) + pc8 (c / 65536) = n
  rw [Int.tmod_eq_emod_of_nonneg (by omega)]
  congr 1
  rcases Nat.mod_two_eq_zero_or_one n with h | h
  · rw [h, show (n : Int) % 2 = 0 by omega]; rfl
  · rw [h, show (n : Int) % 2 = 1 by omega]; rfl
theorem ck_bits {w : Nat} (h : w < 2 ^ 16) : (dataN w).testBit 0 = false ∧ (dataN w).testBit 1 = false ∧ (dataN w).testBit 3 = false ∧ (dataN w).testBit 7 = false ∧ (dataN w).testBit 15 = false := by
  have hd := data_ck h
  have f : ∀ i, (32907 : Nat).testBit i = true → (dataN w).testBit i = false := by
    intro i hi
    have := congrArg (fun z => Nat.testBit z i) hd
    simp only [Nat.testBit_and, hi, Bool.and_true, Nat.zero_testBit] at this
    exact this
  exact ⟨f 0 (by decide), f 1 (by decide), f 3 (by decide), f 7 (by decide), f 15 (by decide)⟩
/-- The check bits, one behind the other, put by 'or'. -/
theorem coded_checks {c m : Nat} (hc : c < 2 ^ 22) (hm : m < 32) (h0 : c.testBit 0 = false) (h1 : c.testBit 1 = false) (h3 : c.testBit 3 = false) (h7 : c.testBit 7 = false) (h15 : c.testBit 15 = false) {g : Nat → Int → Nat → Option (Int × Int)} {r : Int × Int}
    (step : ∀ (c i j : Nat), c < 2 ^ 22 → i = 2 ^ j → j < 5 → ∀ r, (m.testBit j = false → Ev (fun k => g k (c : Int) (2 ^ (j + 1))) r) → (m.testBit j = true → Ev (fun k => g k ((c ||| 2 ^ (i - 1) : Nat) : Int) (2 ^ (j + 1))) r) → Ev (fun k => g k (c : Int) i) r)
    (last : Ev (fun k => g k ((c ^^^ ckN m : Nat) : Int) 32) r) : Ev (fun k => g k (c : Int) 1) r := by
  have one : ∀ (j : Nat) (c : Nat), c < 2 ^ 22 → j < 5 → c.testBit (2 ^ j - 1) = false → Ev (fun k => g k ((if m.testBit j then c ^^^ 2 ^ (2 ^ j - 1) else c : Nat) : Int) (2 ^ (j + 1))) r → Ev (fun k => g k (c : Int) (2 ^ j)) r := by
    intro j c hc hj hb H
    refine step c (2 ^ j) j hc rfl hj r (fun ht => ?_) (fun ht => ?_)
    · rw [ht] at H; exact H
    · rw [ht] at H; rw [or_bit hb]; exact H
  have lt : ∀ (j : Nat) (c : Nat), c < 2 ^ 22 → j < 5 → (if m.testBit j then c ^^^ 2 ^ (2 ^ j - 1) else c) < 2 ^ 22 := by
    intro j c hc hj
    split
    · refine Nat.xor_lt_two_pow hc (Nat.pow_lt_pow_right (by decide) ?_)
      have : ∀ j : Fin 5, 2 ^ j.val - 1 < 22 := by decide
      exact this ⟨j, hj⟩
    · exact hc
  have keep : ∀ (j i : Nat) (c : Nat), c.testBit i = false → 2 ^ j - 1 ≠ i → (if m.testBit j then c ^^^ 2 ^ (2 ^ j - 1) else c).testBit i = false := by
    intro j i c hb hne
    split
    · rw [Nat.testBit_xor, hb, Nat.testBit_two_pow]; simp [hne]
    · exact hb
  refine one 0 c hc (by decide) h0 ?_
  refine one 1 _ (lt 0 c hc (by decide)) (by decide) (keep 0 1 c h1 (by decide)) ?_
  refine one 2 _ (lt 1 _ (lt 0 c hc (by decide)) (by decide)) (by decide) (keep 1 3 _ (keep 0 3 c h3 (by decide)) (by decide)) ?_
  refine one 3 _ (lt 2 _ (lt 1 _ (lt 0 c hc (by decide)) (by decide)) (by decide)) (by decide) (keep 2 7 _ (keep 1 7 _ (keep 0 7 c h7 (by decide)) (by decide)) (by decide)) ?_
  refine one 4 _ (lt 3 _ (lt 2 _ (lt 1 _ (lt 0 c hc (by decide)) (by decide)) (by decide)) (by decide)) (by decide) (keep 3 15 _ (keep 2 15 _ (keep 1 15 _ (keep 0 15 c h15 (by decide)) (by decide)) (by decide)) (by decide)) ?_
  have e := xck_lin 5 0 m 0 0 c
  have e0 : xck 5 0 0 c = c := by simp [xck]
  rw [Nat.xor_zero, Nat.zero_xor, e0] at e
  have e2 : ckN m = xck 5 0 m 0 := rfl
  rw [e2, Nat.xor_comm, ← e] at last
  exact last
theorem coded_tail {w c : Nat} (hw : w < 2 ^ 16) (hc : c = dataN w) : Ev (fun k => memory_Coded.l1 k (c : Int) ((markN c : Nat) : Int) 1) (((codedN w : Nat) : Int), 0) := by
  obtain ⟨h0, h1, h3, h7, h15⟩ := ck_bits hw
  subst hc
  have hd := dataN_lt w
  have hm := markN_lt (dataN w)
  refine coded_checks (g := fun k c i => memory_Coded.l1 k c ((markN (dataN w) : Nat) : Int) (i : Int)) (Nat.lt_trans hd (by decide)) hm h0 h1 h3 h7 h15 ?_ ?_
  · intro c i j hc hi hj r H0 H1
    have hil : i ≤ 16 := by
      have : ∀ j : Fin 5, 2 ^ j.val ≤ 16 := by decide
      rw [hi]; exact this ⟨j, hj⟩
    have hi1 : 1 ≤ i := by rw [hi]; exact Nat.two_pow_pos j
    refine Ev.step (fun k => by rw [memory_Coded.l1]) ?_
    refine Ev.pos (by omega) ?_
    have hb : Go.bits .and .i64 ((markN (dataN w) : Nat) : Int) (i : Int) = 0 ↔ (markN (dataN w)).testBit j = false := by
      rw [hi]; exact and_bit (by omega) (by omega)
    have e2 : (i : Int) * 2 = ((2 ^ (j + 1) : Nat) : Int) := by rw [Nat.pow_succ, ← hi]; omega
    rw [w64 (show -9223372036854775808 ≤ (i : Int) * 2 by omega) (by omega), e2]
    cases ht : (markN (dataN w)).testBit j
    · exact Ev.pos (hb.mpr ht) (H0 ht)
    · refine Ev.neg (fun h => by rw [hb, ht] at h; cases h) ?_
      have h2 : (2 : Nat) ^ (i - 1) < 2 ^ 22 := Nat.pow_lt_pow_right (by decide) (by omega)
      simp only [bit_eq hi1 (show i ≤ 22 by omega), Option.bind_some, or_nat (lt62 hc) (lt62 h2)]
      exact H1 ht
  · refine Ev.step (fun k => by rw [memory_Coded.l1]) ?_
    refine Ev.neg (by decide) ?_
    have hl := code1_lt w
    simp only [odd_eq (c := dataN w ^^^ ckN (markN (dataN w))) (Nat.lt_trans hl (by decide)), Option.bind_some]
    unfold codedN
    simp only
    cases ho : oddN (dataN w ^^^ ckN (markN (dataN w)))
    · exact Ev.neg (by simp) (Ev.now _)
    · have hb := bit_eq (i := 22) (by decide) (by decide)
      simp only [show ((22 : Nat) : Int) = 22 from rfl] at hb
      simp only [hb, Option.bind_some, if_true]
      refine Ev.some ?_
      rw [or_nat (by omega) (by decide), or_bit_lt hl]
theorem data_loop {w0 : Nat} (hw0 : w0 < 2 ^ 16) : ∀ (n i w c : Nat), i + n = 22 → 1 ≤ i → w < 2 ^ 16 → c < 2 ^ (i - 1) → xdata n i w c = dataN w0 →
    Ev (fun k => memory_Coded.l0 k (w : Int) (c : Int) (i : Int)) (((codedN w0 : Nat) : Int), 0)
  | 0, i, w, c, hi, _, _, _, he => by
    refine Ev.step (fun k => by rw [memory_Coded.l0]) ?_
    refine Ev.neg (by omega) ?_
    simp only [xdata] at he
    have hcl : c < 2 ^ 22 := by rw [he]; exact Nat.lt_trans (dataN_lt w0) (by decide)
    exact Ev.bind (mark_ev hcl) (coded_tail hw0 he)
  | n + 1, i, w, c, hi, h1, hw, hc, he => by
    have h2 : (2 : Nat) ^ (i - 1) < 2 ^ i := Nat.pow_lt_pow_right (by decide) (by omega)
    have h3 : (2 : Nat) ^ i ≤ 2 ^ 21 := Nat.pow_le_pow_right (by decide) (by omega)
    refine Ev.step (fun k => by rw [memory_Coded.l0]) ?_
    refine Ev.pos (by omega) ?_
    simp only [check_eq h1 (show i ≤ 21 by omega), Option.bind_some, w64 (show -9223372036854775808 ≤ (i : Int) + 1 by omega) (by omega)]
    simp only [xdata] at he
    cases hk : isCk i
    · rw [hk] at he
      simp only [Bool.false_eq_true, if_false] at he
      refine Ev.neg (by simp) ?_
      rw [and_one (by omega), show (w : Int) / 2 = ((w / 2 : Nat) : Int) by omega]
      rcases Nat.mod_two_eq_zero_or_one w with hm | hm
      · rw [hm] at he ⊢
        refine Ev.pos rfl ?_
        exact data_loop hw0 n (i + 1) (w / 2) c (by omega) (by omega) (by omega) (by simp; omega) (by simpa using he)
      · rw [hm] at he ⊢
        refine Ev.neg (by decide) ?_
        simp only [bit_eq h1 (show i ≤ 22 by omega), Option.bind_some, or_nat (show c < 2 ^ 62 by omega) (show 2 ^ (i - 1) < 2 ^ 62 by omega), or_bit_lt hc]
        exact data_loop hw0 n (i + 1) (w / 2) _ (by omega) (by omega) (by omega) (by simp only [Nat.add_sub_cancel]; exact Nat.xor_lt_two_pow (by omega) h2) (by simpa using he)
    · rw [hk] at he
      refine Ev.pos rfl ?_
      exact data_loop hw0 n (i + 1) w c (by omega) (by omega) hw (by simp; omega) (by simpa using he)
theorem coded_ev (a : Int) : Ev (fun k => memory_Coded.f k a) (if 0 ≤ a ∧ a ≤ 65535 then (((codedN a.toNat : Nat) : Int), 0) else (0, 1)) := by
  unfold memory_Coded.f
  simp only [In_eq, Option.bind_some, decide_eq_true_eq]
  by_cases h : 0 ≤ a ∧ a ≤ 65535
  · rw [if_pos h]
    obtain ⟨w, rfl⟩ := Int.eq_ofNat_of_zero_le h.1
    exact Ev.pos h (data_loop (w0 := w) (by omega) 21 1 w 0 rfl (by decide) (by omega) (by decide) rfl)
  · rw [if_neg h]
    exact Ev.neg h (Ev.now _)
theorem kind_ev {c : Nat} (hc : c < 2 ^ 22) : Ev (fun k => memory_kind.f k (c : Int)) ((((kindN c).1 : Nat) : Int), (((kindN c).2 : Nat) : Int)) := by
  unfold memory_kind.f
  refine Ev.bind (mark_ev hc) ?_
  simp only [odd_eq hc, Option.bind_some]
  unfold kindN
  cases ho : oddN c
  · refine Ev.neg (by simp) ?_
    refine Ev.step (fun k => by rw [memory_kind.j0]) (Ev.neg (by simp) ?_)
    simp only [odd_eq hc, Option.bind_some, ho]
    refine Ev.neg (by simp) ?_
    refine Ev.step (fun k => by rw [memory_kind.j1]) (Ev.neg (by simp) ?_)
    simp only [odd_eq hc, Option.bind_some, ho]
    refine Ev.neg (by simp) ?_
    by_cases hm : markN c = 0
    · exact Ev.pos (by omega) (Ev.some (by simp [hm]))
    · exact Ev.neg (by omega) (Ev.some (by simp [hm]))
  · refine Ev.pos rfl ?_
    refine Ev.step (fun k => by rw [memory_kind.j0]) ?_
    by_cases hm : markN c = 0
    · exact Ev.pos (by simp [hm]) (Ev.some (by simp [hm]))
    · refine Ev.neg (by simp [hm]) ?_
      simp only [odd_eq hc, Option.bind_some, ho]
      refine Ev.pos (by simp) ?_
      refine Ev.step (fun k => by rw [memory_kind.j1]) ?_
      by_cases h22 : markN c < 22
      · exact Ev.pos (by simp; omega) (Ev.some (by simp [hm, h22]))
      · refine Ev.neg (by simp; omega) ?_
        simp only [odd_eq hc, Option.bind_some, ho]
        exact Ev.pos (by simp) (Ev.some (by simp [hm, h22]))
theorem kind_bounds (c : Nat) : 1 ≤ (kindN c).1 ∧ (kindN c).1 ≤ 3 ∧ (kindN c).2 ≤ 22 ∧ ((kindN c).1 = 2 → 1 ≤ (kindN c).2) := by
  rcases kind_cases c with h | ⟨a, h0, h1, h⟩ | h <;> rw [h] <;> simp <;> omega
theorem repaired_ev {c : Nat} (hc : c < 2 ^ 22) : Ev (fun k => memory_repaired.f k (c : Int)) ((repairedN c : Nat) : Int) := by
  have hb := kind_bounds c
  unfold memory_repaired.f
  refine Ev.bind (kind_ev hc) ?_
  unfold repairedN
  by_cases h2 : (kindN c).1 = 2
  · have h3 := hb.2.2.2 h2
    have h4 : (2 : Nat) ^ ((kindN c).2 - 1) < 2 ^ 22 := Nat.pow_lt_pow_right (by decide) (by omega)
    refine Ev.pos (by omega) ?_
    rw [bit_eq h3 (by omega), Option.bind_some, xor_nat (lt62 hc) (lt62 h4), if_pos h2]
    exact Ev.now _
  · rw [if_neg h2]
    exact Ev.neg (by omega) (Ev.now _)
theorem word_loop {c : Nat} (hc : c < 2 ^ 22) (x : Int) : ∀ (n i k w : Nat), i + n = 22 → 1 ≤ i → k < i → w < 2 ^ k →
    Ev (fun q => memory_Decoded.l0 q (c : Int) x (w : Int) (k : Int) (i : Int)) (((xword n i c k w : Nat) : Int), wrap64 (x - 1), 0)
  | 0, i, k, w, hi, _, _, _ => by
    refine Ev.step (fun k => by rw [memory_Decoded.l0]) ?_
    exact Ev.neg (by omega) (Ev.now _)
  | n + 1, i, k, w, hi, h1, hk, hw => by
    have h2 : (2 : Nat) ^ k < 2 ^ (k + 1) := Nat.pow_lt_pow_right (by decide) (by omega)
    have h3 : (2 : Nat) ^ k ≤ 2 ^ 21 := Nat.pow_le_pow_right (by decide) (by omega)
    refine Ev.step (fun k => by rw [memory_Decoded.l0]) ?_
    refine Ev.pos (by omega) ?_
    simp only [check_eq h1 (show i ≤ 21 by omega), bit_eq h1 (show i ≤ 22 by omega), Option.bind_some, w64 (show -9223372036854775808 ≤ (i : Int) + 1 by omega) (by omega), w64 (show -9223372036854775808 ≤ (k : Int) + 1 by omega) (by omega)]
    simp only [xword]
    cases hk2 : isCk i
    · refine Ev.neg (by simp) ?_
      simp only [Bool.false_eq_true, if_false]
      have hb := and_bit (lt62 hc) (show i - 1 ≤ 61 by omega)
      cases ht : c.testBit (i - 1)
      · refine Ev.pos (hb.mpr ht) ?_
        exact word_loop hc x n (i + 1) (k + 1) w (by omega) (by omega) (by omega) (by omega)
      · refine Ev.neg (fun h => by rw [hb] at h; rw [h] at ht; cases ht) (Ev.pos (by omega) ?_)
        rw [shl_bit (show k ≤ 61 by omega), or_nat (show w < 2 ^ 62 by omega) (show 2 ^ k < 2 ^ 62 by omega), or_bit_lt hw]
        exact word_loop hc x n (i + 1) (k + 1) _ (by omega) (by omega) (by omega) (Nat.xor_lt_two_pow (by omega) h2)
    · refine Ev.pos rfl ?_
      exact word_loop hc x n (i + 1) k w (by omega) (by omega) (by omega) hw
theorem decoded_ev {c : Nat} (hc : c < 2 ^ 22) : Ev (fun k => memory_Decoded.f k (c : Int)) ((((decodedN c).1 : Nat) : Int), (((decodedN c).2.1 : Nat) : Int), (((decodedN c).2.2 : Nat) : Int)) := by
  have hb := kind_bounds c
  unfold memory_Decoded.f
  simp only [In_eq, Option.bind_some, decide_eq_true_eq]
  refine Ev.pos (by omega) ?_
  refine Ev.bind (kind_ev hc) ?_
  unfold decodedN
  by_cases h3 : (kindN c).1 = 3
  · refine Ev.pos (by omega) ?_
    rw [if_pos h3]
    exact Ev.now _
  · refine Ev.neg (by omega) ?_
    refine Ev.bind (repaired_ev hc) ?_
    rw [if_neg h3]
    have := word_loop (repaired_lt hc) (((kindN c).1 : Nat) : Int) 21 1 0 0 rfl (by decide) (by decide) (by decide)
    rw [w64 (by omega) (by omega), show (((kindN c).1 : Nat) : Int) - 1 = (((kindN c).1 - 1 : Nat) : Int) by omega] at this
    exact this
theorem awake_ev : Ev (fun k => perigeelaw3_awake.f k) true := by
  unfold perigeelaw3_awake.f
  refine Ev.bind (coded_ev 1) ?_
  have h : codedN 1 = 2097159 := by decide +kernel
  refine Ev.pos rfl (Ev.some ?_)
  rw [if_pos ⟨by decide, by decide⟩]
  show (((codedN 1 : Nat) : Int) == 2097159) = true
  rw [h]; rfl
theorem below_eq {a n : Int} (h0 : 0 < n) (h1 : n ≤ 1000000) : perigeeref3_Below.f a n = some (a % n) := by
  have h2 := Int.emod_nonneg a (show n ≠ 0 by omega)
  have h3 := Int.emod_lt_of_pos a h0
  have h4 := Int.emod_add_mul_ediv a n
  unfold perigeeref3_Below.f
  rw [if_neg (show ¬ n = 0 by omega)]
  have ht : Int.tmod a n = a % n ∨ (Int.tmod a n < 0 ∧ Int.tmod a n + n = a % n ∧ - n < Int.tmod a n) := by
    rcases Int.lt_or_le a 0 with h | h
    · obtain ⟨b, rfl⟩ : ∃ b, a = -b := ⟨-a, by omega⟩
      have hb : 0 ≤ b := by omega
      have h5 := Int.emod_nonneg b (show n ≠ 0 by omega)
      have h6 := Int.emod_lt_of_pos b h0
      rw [Int.neg_tmod, Int.tmod_eq_emod_of_nonneg hb]
      by_cases hz : b % n = 0
      · left
        have : (-b) % n = 0 := by
          have := Int.dvd_of_emod_eq_zero hz
          exact Int.emod_eq_zero_of_dvd (Int.dvd_neg.mpr this)
        omega
      · right
        refine ⟨by omega, ?_, by omega⟩
        have e : (-b) % n = (n - b % n) % n := by
          have := Int.emod_add_mul_ediv b n
          rw [show -b = (n - b % n) + n * (- (b / n) - 1) by rw [Int.mul_sub, Int.mul_neg]; omega, Int.add_mul_emod_self_left]
        have e2 : (n - b % n) % n = n - b % n := Int.emod_eq_of_lt (by omega) (by omega)
        rw [e, e2]
        omega
    · left; exact Int.tmod_eq_emod_of_nonneg h
  rcases ht with h | ⟨h, h5, h6⟩
  · rw [h, if_neg (by omega)]
  · rw [if_pos h, w64 (by omega) (by omega), h5]
def inC (x : Int) : Prop := 0 ≤ x ∧ x ≤ 4194303
def inW (x : Int) : Prop := 0 ≤ x ∧ x ≤ 65535
instance (x : Int) : Decidable (inC x) := by unfold inC; exact inferInstance
instance (x : Int) : Decidable (inW x) := by unfold inW; exact inferInstance
def bankGo : List Int → List Int → Int
  | [], _ => 0
  | _ :: _, [] => 1
  | c :: cs, s :: ss => if inC c ∧ inW s then bankGo cs ss else 1
def bankS (c s : List Int) : Int := if c.length = 0 then 9 else if c.length > 2000 then 2 else if s.length = c.length then bankGo c s else 3
theorem bankGo_ok : ∀ (c s : List Int), bankGo c s = 0 → (∀ x ∈ c, inC x)
  | [], _, _, x, hx => by cases hx
  | a :: cs, [], h, _, _ => by cases h
  | a :: cs, b :: ss, h, x, hx => by
    unfold bankGo at h
    split at h
    · rename_i h1
      rcases List.mem_cons.mp hx with rfl | hx
      · exact h1.1
      · exact bankGo_ok cs ss h x hx
    · cases h
theorem bankGo_ok2 : ∀ (c s : List Int), bankGo c s = 0 → s.length = c.length → (∀ x ∈ s, inW x)
  | [], [], _, _, x, hx => by cases hx
  | [], b :: ss, _, h, _, _ => by simp at h
  | a :: cs, [], h, _, _, _ => by cases h
  | a :: cs, b :: ss, h, hl, x, hx => by
    unfold bankGo at h
    split at h
    · rename_i h1
      rcases List.mem_cons.mp hx with rfl | hx
      · exact h1.2
      · exact bankGo_ok2 cs ss h (by simpa using hl) x hx
    · cases h
theorem bankGo_mk : ∀ (c s : List Int), s.length = c.length → (∀ x ∈ c, inC x) → (∀ x ∈ s, inW x) → bankGo c s = 0
  | [], _, _, _, _ => rfl
  | a :: cs, [], h, _, _ => by simp at h
  | a :: cs, b :: ss, h, h1, h2 => by
    unfold bankGo
    rw [if_pos ⟨h1 a (by simp), h2 b (by simp)⟩]
    exact bankGo_mk cs ss (by simpa using h) (fun x hx => h1 x (by simp [hx])) (fun x hx => h2 x (by simp [hx]))
theorem bankS_ok {c s : List Int} (h : bankS c s = 0) : 0 < c.length ∧ c.length ≤ 2000 ∧ s.length = c.length ∧ (∀ x ∈ c, inC x) ∧ (∀ x ∈ s, inW x) := by
  unfold bankS at h
  split at h
  · cases h
  · split at h
    · cases h
    · split at h
      · rename_i h3
        exact ⟨by omega, by omega, h3, bankGo_ok c s h, bankGo_ok2 c s h h3⟩
      · cases h
theorem bankS_mk {c s : List Int} (h0 : 0 < c.length) (h1 : c.length ≤ 2000) (h2 : s.length = c.length) (hc : ∀ x ∈ c, inC x) (hs : ∀ x ∈ s, inW x) : bankS c s = 0 := by
  unfold bankS
  rw [if_neg (by omega), if_neg (by omega), if_pos h2]
  exact bankGo_mk c s h2 hc hs
theorem bank_loop (c0 s0 : List Int) (hl : c0.length ≤ 2000) (hs : s0.length = c0.length) : ∀ (c s pre qre : List Int), c0 = pre ++ c → s0 = qre ++ s → pre.length = qre.length →
    Ev (fun k => memory_CheckBank.l0 k c0 c0.length pre.length c0 s0) (bankGo c s)
  | [], s, pre, qre, hp, hq, h => by
    refine Ev.step (fun k => by rw [memory_CheckBank.l0]) ?_
    exact Ev.neg (by rw [hp]; simp) (Ev.some (by simp [bankGo]))
  | a :: c, [], pre, qre, hp, hq, h => by
    rw [hp, hq] at hs
    simp only [List.length_append, List.length_nil, List.length_cons] at hs
    omega
  | a :: c, b :: s, pre, qre, hp, hq, h => by
    have hlen : pre.length < c0.length := by rw [hp]; simp
    have hrd : rd c0 pre.length = a := by rw [hp]; exact rd_mid ..
    have hrd' : rd s0 pre.length = b := by rw [hq]; exact rd_mid' _ _ _ (by omega)
    have hw : wrap64 ((pre.length : Int) + 1) = ((pre ++ [a]).length : Int) := by rw [w64 (by omega) (by omega)]; simp
    refine Ev.step (fun k => by rw [memory_CheckBank.l0]) ?_
    simp only [hrd, hrd', In_eq, Option.bind_some, decide_eq_true_eq]
    refine Ev.pos (by omega) (Ev.pos (by omega) (Ev.pos (by omega) ?_))
    unfold bankGo
    by_cases c1 : inC a
    · refine Ev.pos c1 (Ev.pos (by omega) ?_)
      by_cases c2 : inW b
      · rw [if_pos ⟨c1, c2⟩, hw]
        exact Ev.pos c2 (bank_loop c0 s0 hl hs c s (pre ++ [a]) (qre ++ [b]) (by simp [hp]) (by simp [hq]) (by simp [h]))
      · rw [if_neg (fun e => c2 e.2)]
        exact Ev.neg c2 (Ev.now _)
    · rw [if_neg (fun e => c1 e.1)]
      exact Ev.neg c1 (Ev.now _)
theorem bank_ev (c s : List Int) : Ev (fun k => memory_CheckBank.f k c s) (bankS c s) := by
  unfold memory_CheckBank.f bankS
  by_cases h0 : c.length = 0
  · rw [if_pos h0]
    exact Ev.pos (by omega) (Ev.now _)
  · rw [if_neg h0]
    refine Ev.neg (by omega) ?_
    by_cases h1 : c.length > 2000
    · rw [if_pos h1]
      exact Ev.pos (by omega) (Ev.now _)
    · rw [if_neg h1]
      refine Ev.neg (by omega) ?_
      by_cases h2 : s.length = c.length
      · rw [if_pos h2]
        exact Ev.pos (by omega) (bank_loop c s (by omega) h2 c s [] [] rfl rfl rfl)
      · rw [if_neg h2]
        exact Ev.neg (by omega) (Ev.now _)
theorem clone_eq {l : List Int} (h : l.length < 17592186044416) : slices_Clone_int_int.f l = some l := by
  unfold slices_Clone_int_int.f
  rw [Option.bind_some, if_pos (by simpa using h)]
  rfl
theorem rd_in {c : List Int} (hc : ∀ x ∈ c, inC x) {i : Int} (h0 : 0 ≤ i) (h1 : i < c.length) : inC (rd c i) := by
  unfold rd
  rw [List.getD_eq_getElem?_getD, List.getElem?_eq_getElem (by omega)]
  exact hc _ (List.getElem_mem _)
theorem set_in {c : List Int} (hc : ∀ x ∈ c, inC x) {y : Int} (hy : inC y) (i : Nat) : ∀ x ∈ c.set i y, inC x := by
  intro x hx
  rcases List.mem_or_eq_of_mem_set hx with h | rfl
  · exact hc x h
  · exact hy
theorem copied_eq {c s : List Int} (hc : c.length < 17592186044416) (hs : s.length < 17592186044416) : memory_copied.f c s = some (c, s) := by
  unfold memory_copied.f
  rw [clone_eq hc, clone_eq hs]; rfl
def placeS (c s : List Int) (i : Int) : Int := if bankS c s = 0 then (if 0 ≤ i ∧ i < c.length then 0 else 9) else bankS c s
theorem place_ev (c s : List Int) (i : Int) : Ev (fun k => memory_place.f k c s i) (placeS c s i) := by
  unfold memory_place.f placeS
  refine Ev.bind (bank_ev c s) ?_
  by_cases h : bankS c s = 0
  · refine Ev.pos h ?_
    rw [if_pos h]
    obtain ⟨h0, h1, _⟩ := bankS_ok h
    simp only [In_eq, w64 (show -9223372036854775808 ≤ (c.length : Int) - 1 by omega) (by omega), Option.bind_some, decide_eq_true_eq]
    by_cases hi : 0 ≤ i ∧ i < c.length
    · rw [if_pos hi]
      exact Ev.pos (by omega) (Ev.now _)
    · rw [if_neg hi]
      exact Ev.neg (by omega) (Ev.now _)
  · refine Ev.neg h ?_
    rw [if_neg h]
    exact Ev.now _
theorem rd_set (c : List Int) {a p y : Int} (ha : 0 ≤ a) (ha1 : a < c.length) (hp : 0 ≤ p) : rd (c.set a.toNat y) p = if p = a then y else rd c p := by
  unfold rd
  rw [List.getD_eq_getElem?_getD, List.getD_eq_getElem?_getD]
  by_cases h : p = a
  · subst h
    rw [if_pos rfl, List.getElem?_set_self (by omega)]; rfl
  · rw [if_neg h, List.getElem?_set_ne (by omega)]
def decI (x : Int) : Int × Int × Int := ((((decodedN x.toNat).1 : Nat) : Int), (((decodedN x.toNat).2.1 : Nat) : Int), (((decodedN x.toNat).2.2 : Nat) : Int))
theorem dec_evI {x : Int} (h : inC x) : Ev (fun k => memory_Decoded.f k x) (decI x) := by
  obtain ⟨c, rfl⟩ := Int.eq_ofNat_of_zero_le h.1
  exact decoded_ev (by have := h.2; omega)
def readS (c s : List Int) (i : Int) : Int × Int × Int := if placeS c s i = 0 then decI (rd c i) else (0, 0, placeS c s i)
theorem read_ev (c s : List Int) (i : Int) : Ev (fun k => memory_ReadAt.f k c s i) (readS c s i) := by
  unfold memory_ReadAt.f
  refine Ev.bind (place_ev c s i) ?_
  unfold readS
  by_cases h : placeS c s i = 0
  · rw [if_pos h]
    refine Ev.pos h ?_
    have hi : bankS c s = 0 ∧ 0 ≤ i ∧ i < c.length := by
      unfold placeS at h
      split at h
      · rename_i hb
        split at h
        · rename_i hi; exact ⟨hb, hi⟩
        · cases h
      · rename_i hb; exact absurd h hb
    obtain ⟨b0, b1, b2, b3, b4⟩ := bankS_ok hi.1
    exact Ev.pos hi.2.1 (Ev.pos hi.2.2 (Ev.bind (dec_evI (rd_in b3 hi.2.1 hi.2.2)) (Ev.now _)))
  · rw [if_neg h]
    exact Ev.neg h (Ev.now _)
theorem readS_ok {c s : List Int} {i : Int} (hb : bankS c s = 0) (h0 : 0 ≤ i) (h1 : i < c.length) : readS c s i = decI (rd c i) := by
  have hp : placeS c s i = 0 := by unfold placeS; rw [if_pos hb, if_pos ⟨h0, h1⟩]
  unfold readS
  rw [if_pos hp]
theorem placeS_zero {c s : List Int} {i : Int} : placeS c s i = 0 ↔ bankS c s = 0 ∧ 0 ≤ i ∧ i < c.length := by
  unfold placeS
  constructor
  · intro h
    by_cases hb : bankS c s = 0
    · rw [if_pos hb] at h
      by_cases hi : 0 ≤ i ∧ i < c.length
      · exact ⟨hb, hi⟩
      · rw [if_neg hi] at h; cases h
    · rw [if_neg hb] at h; exact absurd h hb
  · rintro ⟨hb, hi⟩
    rw [if_pos hb, if_pos hi]
def writtenS (c s : List Int) (i w : Int) : List Int × List Int × Int :=
  if placeS c s i = 0 then (if 0 ≤ w ∧ w ≤ 65535 then (c.set i.toNat ((codedN w.toNat : Nat) : Int), s.set i.toNat w, 0) else ([], [], 1)) else ([], [], placeS c s i)
theorem written_ev (c s : List Int) (i w : Int) : Ev (fun k => memory_Written.f k c s i w) (writtenS c s i w) := by
  unfold memory_Written.f writtenS
  refine Ev.bind (place_ev c s i) ?_
  by_cases h : placeS c s i = 0
  · refine Ev.pos h ?_
    rw [if_pos h]
    obtain ⟨hb, h0, h1⟩ := placeS_zero.mp h
    obtain ⟨b0, b1, b2, b3, b4⟩ := bankS_ok hb
    refine Ev.bind (coded_ev w) ?_
    by_cases hw : 0 ≤ w ∧ w ≤ 65535
    · simp only [if_pos hw, copied_eq (c := c) (s := s) (by omega) (by omega), Option.bind_some]
      exact Ev.pos (by trivial) (Ev.pos h0 (Ev.pos h1 (Ev.pos (by omega) (Ev.now _))))
    · simp only [if_neg hw]
      exact Ev.neg (by decide) (Ev.now _)
  · refine Ev.neg h ?_
    rw [if_neg h]
    exact Ev.now _
theorem dec_coded {w : Int} (hw : 0 ≤ w ∧ w ≤ 65535) : decI ((codedN w.toNat : Nat) : Int) = (w, 0, 0) := by
  unfold decI
  rw [Int.toNat_natCast]
  have h : decodedN (codedN w.toNat) = (w.toNat, 0, 0) := by
    unfold decodedN repairedN
    rw [kind_coded]
    simp only [Nat.reduceEqDiff, if_false]
    rw [word_coded (by omega)]
  rw [h]
  simp only [Prod.mk.injEq]
  omega
theorem coded_in (w : Nat) : inC ((codedN w : Nat) : Int) := by
  have := codedN_lt w
  unfold inC
  omega
theorem set_inW {c : List Int} (hc : ∀ x ∈ c, inW x) {y : Int} (hy : inW y) (i : Nat) : ∀ x ∈ c.set i y, inW x := by
  intro x hx
  rcases List.mem_or_eq_of_mem_set hx with h | rfl
  · exact hc x h
  · exact hy
theorem MemoryWrittenIsRead : perigeelaw3_MemoryWrittenIsRead.Pure := by
  intro c s i w other _ _ _ _ _
  refine Ev.rounds (g := fun k => perigeelaw3_MemoryWrittenIsRead.f k c s i w other) ?_
  unfold perigeelaw3_MemoryWrittenIsRead.f
  refine Ev.bind (written_ev c s i w) ?_
  unfold writtenS
  have fin : Ev (fun k => (perigeelaw3_awake.f k).bind fun t => some t) true := Ev.bind awake_ev (Ev.now _)
  by_cases h : placeS c s i = 0
  · rw [if_pos h]
    obtain ⟨hb, h0, h1⟩ := placeS_zero.mp h
    obtain ⟨b0, b1, b2, b3, b4⟩ := bankS_ok hb
    by_cases hw : 0 ≤ w ∧ w ≤ 65535
    · rw [if_pos hw]
      refine Ev.pos rfl ?_
      have hb' : bankS (c.set i.toNat ((codedN w.toNat : Nat) : Int)) (s.set i.toNat w) = 0 :=
        bankS_mk (by simpa using b0) (by simpa using b1) (by simpa using b2) (set_in b3 (coded_in _) _) (set_inW b4 hw _)
      refine Ev.bind (read_ev ..) ?_
      rw [readS_ok hb' h0 (by simpa using h1), rd_set c h0 h1 h0, if_pos rfl, dec_coded hw]
      refine Ev.pos rfl (Ev.pos rfl ?_)
      refine Ev.step (fun k => by rw [perigeelaw3_MemoryWrittenIsRead.j0]) (Ev.neg (by simp) ?_)
      simp only [below_eq (a := other) (n := (c.length : Int)) (by omega) (by omega), Option.bind_some]
      have p0 := Int.emod_nonneg other (show (c.length : Int) ≠ 0 by omega)
      have p1 := Int.emod_lt_of_pos other (show (0 : Int) < c.length by omega)
      by_cases he : other % c.length = i
      · exact Ev.pos he fin
      · refine Ev.neg he (Ev.bind (read_ev ..) (Ev.bind (read_ev ..) ?_))
        rw [readS_ok hb p0 p1, readS_ok hb' p0 (by simpa using p1), rd_set c h0 h1 p0, if_neg he]
        exact Ev.pos rfl (Ev.pos rfl (Ev.pos rfl fin))
    · rw [if_neg hw]
      exact Ev.neg (by decide) (Ev.pos rfl fin)
  · rw [if_neg h]
    exact Ev.neg h (Ev.pos rfl fin)

end Go.Proofs.Ythlgdgmpmjfiiaa.Pure
