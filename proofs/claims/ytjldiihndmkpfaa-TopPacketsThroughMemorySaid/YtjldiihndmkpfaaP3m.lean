/- Codes of 22 bits, in plain numbers. -/
import Derived.Laws.BitsAllLaws
import Derived.KernelRfl
set_option linter.unusedVariables false
set_option linter.unusedSimpArgs false
namespace Go.Proofs.P3
/-! ### codes of 22 bits: plain -/
def isCk (i : Nat) : Bool := i == 1 || i == 2 || i == 4 || i == 8 || i == 16
def xmark : Nat → Nat → Nat → Nat → Nat
  | 0, _, _, m => m
  | n + 1, i, c, m => xmark n (i + 1) c (if c.testBit (i - 1) then m ^^^ i else m)
def xodd : Nat → Nat → Nat → Bool → Bool
  | 0, _, _, b => b
  | n + 1, i, c, b => xodd n (i + 1) c (b != c.testBit (i - 1))
def xdata : Nat → Nat → Nat → Nat → Nat
  | 0, _, _, c => c
  | n + 1, i, w, c => if isCk i then xdata n (i + 1) w c else xdata n (i + 1) (w / 2) (if w % 2 = 1 then c ^^^ 2 ^ (i - 1) else c)
def xword : Nat → Nat → Nat → Nat → Nat → Nat
  | 0, _, _, _, w => w
  | n + 1, i, c, k, w => if isCk i then xword n (i + 1) c k w else xword n (i + 1) c (k + 1) (if c.testBit (i - 1) then w ^^^ 2 ^ k else w)
def xck : Nat → Nat → Nat → Nat → Nat
  | 0, _, _, c => c
  | n + 1, j, m, c => xck n (j + 1) m (if m.testBit j then c ^^^ 2 ^ (2 ^ j - 1) else c)
def markN (c : Nat) : Nat := xmark 21 1 c 0
def oddN (c : Nat) : Bool := xodd 22 1 c false
def dataN (w : Nat) : Nat := xdata 21 1 w 0
def wordN (c : Nat) : Nat := xword 21 1 c 0 0
def ckN (m : Nat) : Nat := xck 5 0 m 0
def codedN (w : Nat) : Nat :=
  let c := dataN w ^^^ ckN (markN (dataN w))
  if oddN c then c ^^^ 2 ^ 21 else c
def kindN (c : Nat) : Nat × Nat :=
  if oddN c = true ∧ markN c = 0 then (2, 22) else if oddN c = true ∧ markN c < 22 then (2, markN c) else if oddN c = true ∨ markN c ≠ 0 then (3, 0) else (1, 0)
def repairedN (c : Nat) : Nat := if (kindN c).1 = 2 then c ^^^ 2 ^ ((kindN c).2 - 1) else c
/-- The word, how many bits were put right, the fault. -/
def decodedN (c : Nat) : Nat × Nat × Nat := if (kindN c).1 = 3 then (0, 0, 15) else (wordN (repairedN c), (kindN c).1 - 1, 0)

theorem xor_mix (a b c d : Nat) : (a ^^^ b) ^^^ (c ^^^ d) = (a ^^^ c) ^^^ (b ^^^ d) := by ac_rfl
theorem xmark_lin : ∀ (n i c d m k : Nat), xmark n i (c ^^^ d) (m ^^^ k) = xmark n i c m ^^^ xmark n i d k
  | 0, _, _, _, _, _ => rfl
  | n + 1, i, c, d, m, k => by
    simp only [xmark, Nat.testBit_xor]
    rw [← xmark_lin n]
    congr 1
    cases hc : c.testBit (i - 1) <;> cases hd : d.testBit (i - 1) <;> simp
    · ac_rfl
    · ac_rfl
    · rw [xor_mix, Nat.xor_self, Nat.xor_zero]
theorem markN_lin (c d : Nat) : markN (c ^^^ d) = markN c ^^^ markN d := xmark_lin 21 1 c d 0 0
theorem xodd_lin : ∀ (n i c d : Nat) (a b : Bool), xodd n i (c ^^^ d) (a != b) = (xodd n i c a != xodd n i d b)
  | 0, _, _, _, _, _ => rfl
  | n + 1, i, c, d, a, b => by
    simp only [xodd, Nat.testBit_xor]
    rw [← xodd_lin n]
    congr 1
    cases a <;> cases b <;> cases c.testBit (i - 1) <;> cases d.testBit (i - 1) <;> rfl
theorem oddN_lin (c d : Nat) : oddN (c ^^^ d) = (oddN c != oddN d) := xodd_lin 22 1 c d false false
theorem xor_mod2 (a b : Nat) : (a ^^^ b) % 2 = (a % 2 + b % 2) % 2 := by
  have h := Nat.xor_mod_two_pow (a := a) (b := b) (n := 1)
  simp only [Nat.pow_one] at h
  rw [h]
  rcases Nat.mod_two_eq_zero_or_one a with h1 | h1 <;> rcases Nat.mod_two_eq_zero_or_one b with h2 | h2 <;> rw [h1, h2] <;> rfl
theorem xor_div2 (a b : Nat) : (a ^^^ b) / 2 = a / 2 ^^^ b / 2 := by
  have h := Nat.xor_div_two_pow (a := a) (b := b) (n := 1)
  simpa using h
theorem xdata_lin : ∀ (n i w v c d : Nat), xdata n i (w ^^^ v) (c ^^^ d) = xdata n i w c ^^^ xdata n i v d
  | 0, _, _, _, _, _ => rfl
  | n + 1, i, w, v, c, d => by
    simp only [xdata]
    split
    · exact xdata_lin n ..
    · rw [← xdata_lin n, xor_div2, xor_mod2]
      congr 1
      rcases Nat.mod_two_eq_zero_or_one w with h1 | h1 <;> rcases Nat.mod_two_eq_zero_or_one v with h2 | h2 <;> simp [h1, h2]
      · ac_rfl
      · ac_rfl
      · rw [xor_mix, Nat.xor_self, Nat.xor_zero]
theorem dataN_lin (w v : Nat) : dataN (w ^^^ v) = dataN w ^^^ dataN v := xdata_lin 21 1 w v 0 0
theorem xword_lin : ∀ (n i c d k w v : Nat), xword n i (c ^^^ d) k (w ^^^ v) = xword n i c k w ^^^ xword n i d k v
  | 0, _, _, _, _, _, _ => rfl
  | n + 1, i, c, d, k, w, v => by
    simp only [xword]
    split
    · exact xword_lin n ..
    · rw [← xword_lin n, Nat.testBit_xor]
      congr 1
      cases hc : c.testBit (i - 1) <;> cases hd : d.testBit (i - 1) <;> simp
      · ac_rfl
      · ac_rfl
      · rw [xor_mix, Nat.xor_self, Nat.xor_zero]
theorem wordN_lin (c d : Nat) : wordN (c ^^^ d) = wordN c ^^^ wordN d := xword_lin 21 1 c d 0 0 0
theorem xck_lin : ∀ (n j m k c d : Nat), xck n j (m ^^^ k) (c ^^^ d) = xck n j m c ^^^ xck n j k d
  | 0, _, _, _, _, _ => rfl
  | n + 1, j, m, k, c, d => by
    simp only [xck]
    rw [← xck_lin n, Nat.testBit_xor]
    congr 1
    cases hc : m.testBit j <;> cases hd : k.testBit j <;> simp
    · ac_rfl
    · ac_rfl
    · rw [xor_mix, Nat.xor_self, Nat.xor_zero]
theorem ckN_lin (m k : Nat) : ckN (m ^^^ k) = ckN m ^^^ ckN k := xck_lin 5 0 m k 0 0
/-- Two maps that keep exclusive or are the same where they are so on the single bits. -/
theorem lin_ext {f g : Nat → Nat} (hf : ∀ a b, f (a ^^^ b) = f a ^^^ f b) (hg : ∀ a b, g (a ^^^ b) = g a ^^^ g b) : ∀ (n : Nat), (∀ j, j < n → f (2 ^ j) = g (2 ^ j)) → ∀ w, w < 2 ^ n → f w = g w
  | 0, _, w, hw => by
    obtain rfl : w = 0 := by simpa using hw
    have h1 := hf 0 0; have h2 := hg 0 0
    simp only [Nat.xor_self] at h1 h2
    rw [h1, h2]
  | n + 1, h, w, hw => by
    have ih := lin_ext hf hg n (fun j hj => h j (by omega))
    by_cases hb : w < 2 ^ n
    · exact ih w hb
    · have e : w = (w - 2 ^ n) ^^^ 2 ^ n := by
        have h2 : w - 2 ^ n < 2 ^ n := by rw [Nat.pow_succ] at hw; omega
        have h3 : (w - 2 ^ n) ^^^ 2 ^ n = 2 ^ n + (w - 2 ^ n) := by
          have h4 := Nat.two_pow_add_eq_or_of_lt h2 1
          rw [Nat.mul_one] at h4
          rw [h4]
          apply Nat.eq_of_testBit_eq
          intro i
          rw [Nat.testBit_xor, Nat.testBit_or, Nat.testBit_two_pow]
          by_cases hi : n = i
          · subst hi; rw [Nat.testBit_lt_two_pow h2]; simp
          · simp [hi]
        omega
      rw [e, hf, hg, ih _ (by rw [Nat.pow_succ] at hw; omega), h n (by omega)]
theorem or_bit {a j : Nat} (h : a.testBit j = false) : a ||| 2 ^ j = a ^^^ 2 ^ j := by
  apply Nat.eq_of_testBit_eq
  intro i
  rw [Nat.testBit_xor, Nat.testBit_or, Nat.testBit_two_pow]
  by_cases hi : j = i
  · subst hi; rw [h]; simp
  · simp [hi]
theorem or_bit_lt {a j : Nat} (h : a < 2 ^ j) : a ||| 2 ^ j = a ^^^ 2 ^ j := or_bit (Nat.testBit_lt_two_pow h)
theorem mark_lt : ∀ (n i c m : Nat), i + n ≤ 32 → m < 32 → xmark n i c m < 32
  | 0, _, _, _, _, h => h
  | n + 1, i, c, m, hi, h => by
    simp only [xmark]
    apply mark_lt n (i + 1) c _ (by omega)
    split
    · exact Nat.xor_lt_two_pow (n := 5) h (by omega)
    · exact h
theorem markN_lt (c : Nat) : markN c < 32 := mark_lt 21 1 c 0 (by decide) (by decide)
theorem data_lt : ∀ (n i w c : Nat), 1 ≤ i → c < 2 ^ (i - 1) → xdata n i w c < 2 ^ (i - 1 + n)
  | 0, _, _, _, _, h => h
  | n + 1, i, w, c, hi, h => by
    have h2 : (2 : Nat) ^ (i - 1) < 2 ^ i := Nat.pow_lt_pow_right (by decide) (by omega)
    simp only [xdata]
    rw [show i - 1 + (n + 1) = (i + 1) - 1 + n by omega]
    split
    · exact data_lt n (i + 1) w c (by omega) (by simp; omega)
    · apply data_lt n (i + 1) _ _ (by omega)
      simp only [Nat.add_sub_cancel]
      split
      · exact Nat.xor_lt_two_pow (by omega) h2
      · omega
theorem dataN_lt (w : Nat) : dataN w < 2 ^ 21 := data_lt 21 1 w 0 (by decide) (by decide)
theorem ckN_lt {m : Nat} (h : m < 32) : ckN m < 2 ^ 16 := by
  have : ∀ m : Fin 32, ckN m.val < 2 ^ 16 := by decide +kernel
  exact this ⟨m, h⟩
theorem code1_lt (w : Nat) : dataN w ^^^ ckN (markN (dataN w)) < 2 ^ 21 := Nat.xor_lt_two_pow (dataN_lt w) (Nat.lt_trans (ckN_lt (markN_lt _)) (by decide))
theorem codedN_lt (w : Nat) : codedN w < 2 ^ 22 := by
  unfold codedN
  simp only
  split
  · exact Nat.xor_lt_two_pow (Nat.lt_trans (code1_lt w) (by decide)) (by decide)
  · exact Nat.lt_trans (code1_lt w) (by decide)
theorem mark_ck {m : Nat} (h : m < 32) : markN (ckN m) = m := by
  have : ∀ m : Fin 32, markN (ckN m.val) = m.val := by decide +kernel
  exact this ⟨m, h⟩
theorem word_ck {m : Nat} (h : m < 32) : wordN (ckN m) = 0 := by
  have : ∀ m : Fin 32, wordN (ckN m.val) = 0 := by decide +kernel
  exact this ⟨m, h⟩
theorem word_data {w : Nat} (h : w < 2 ^ 16) : wordN (dataN w) = w := by
  refine lin_ext (f := fun w => wordN (dataN w)) (g := fun w => w) (fun a b => by simp only [dataN_lin, wordN_lin]) (fun _ _ => rfl) 16 (fun j hj => ?_) w h
  have : ∀ j : Fin 16, wordN (dataN (2 ^ j.val)) = 2 ^ j.val := by decide +kernel
  exact this ⟨j, hj⟩
theorem data_ck {w : Nat} (h : w < 2 ^ 16) : dataN w &&& 32907 = 0 := by
  refine lin_ext (f := fun w => dataN w &&& 32907) (g := fun w => 0) (fun a b => by simp only [dataN_lin, Nat.and_xor_distrib_right]) (fun _ _ => rfl) 16 (fun j hj => ?_) w h
  have : ∀ j : Fin 16, dataN (2 ^ j.val) &&& 32907 = 0 := by decide +kernel
  exact this ⟨j, hj⟩
theorem mark_code1 (w : Nat) : markN (dataN w ^^^ ckN (markN (dataN w))) = 0 := by
  rw [markN_lin, mark_ck (markN_lt _), Nat.xor_self]
theorem mark_coded (w : Nat) : markN (codedN w) = 0 := by
  unfold codedN
  simp only
  split
  · rw [markN_lin, mark_code1, show markN (2 ^ 21) = 0 by decide +kernel]; rfl
  · exact mark_code1 w
theorem odd_coded (w : Nat) : oddN (codedN w) = false := by
  unfold codedN
  simp only
  split
  · rename_i h
    rw [oddN_lin, h, show oddN (2 ^ 21) = true by decide +kernel]; rfl
  · rename_i h
    simpa using h
theorem word_coded {w : Nat} (h : w < 2 ^ 16) : wordN (codedN w) = w := by
  have h1 : wordN (dataN w ^^^ ckN (markN (dataN w))) = w := by
    rw [wordN_lin, word_data h, word_ck (markN_lt _), Nat.xor_zero]
  unfold codedN
  simp only
  split
  · rw [wordN_lin, h1, show wordN (2 ^ 21) = 0 by decide +kernel, Nat.xor_zero]
  · exact h1
theorem mark_bit {a : Nat} (h0 : 1 ≤ a) (h1 : a ≤ 22) : markN (2 ^ (a - 1)) = if a = 22 then 0 else a := by
  have : ∀ a : Fin 23, 1 ≤ a.val → markN (2 ^ (a.val - 1)) = if a.val = 22 then 0 else a.val := by decide +kernel
  exact this ⟨a, by omega⟩ h0
theorem odd_bit {a : Nat} (h0 : 1 ≤ a) (h1 : a ≤ 22) : oddN (2 ^ (a - 1)) = true := by
  have : ∀ a : Fin 23, 1 ≤ a.val → oddN (2 ^ (a.val - 1)) = true := by decide +kernel
  exact this ⟨a, by omega⟩ h0
theorem kind_coded (w : Nat) : kindN (codedN w) = (1, 0) := by
  unfold kindN
  simp [mark_coded, odd_coded]
theorem kind_one (w : Nat) {a : Nat} (h0 : 1 ≤ a) (h1 : a ≤ 22) : kindN (codedN w ^^^ 2 ^ (a - 1)) = (2, a) := by
  have hm : markN (codedN w ^^^ 2 ^ (a - 1)) = if a = 22 then 0 else a := by rw [markN_lin, mark_coded, mark_bit h0 h1, Nat.zero_xor]
  have ho : oddN (codedN w ^^^ 2 ^ (a - 1)) = true := by rw [oddN_lin, odd_coded, odd_bit h0 h1]; rfl
  unfold kindN
  rw [hm, ho]
  by_cases h : a = 22
  · simp [h]
  · have h2 : ¬ a = 0 := by omega
    have h3 : a < 22 := by omega
    simp [h, h2, h3]
theorem kind_two (w : Nat) {a b : Nat} (h0 : 1 ≤ a) (h1 : a ≤ 22) (h2 : 1 ≤ b) (h3 : b ≤ 22) (hab : a ≠ b) : kindN (codedN w ^^^ 2 ^ (a - 1) ^^^ 2 ^ (b - 1)) = (3, 0) := by
  have hm : markN (codedN w ^^^ 2 ^ (a - 1) ^^^ 2 ^ (b - 1)) = (if a = 22 then 0 else a) ^^^ (if b = 22 then 0 else b) := by rw [markN_lin, markN_lin, mark_coded, mark_bit h0 h1, mark_bit h2 h3, Nat.zero_xor]
  have ho : oddN (codedN w ^^^ 2 ^ (a - 1) ^^^ 2 ^ (b - 1)) = false := by rw [oddN_lin, oddN_lin, odd_coded, odd_bit h0 h1, odd_bit h2 h3]; rfl
  have hne : (if a = 22 then 0 else a) ^^^ (if b = 22 then 0 else b) ≠ 0 := by
    have : ∀ a b : Fin 23, 1 ≤ a.val → 1 ≤ b.val → a ≠ b → (if a.val = 22 then 0 else a.val) ^^^ (if b.val = 22 then 0 else b.val) ≠ 0 := by decide +kernel
    exact this ⟨a, by omega⟩ ⟨b, by omega⟩ h0 h2 (fun e => hab (by simpa using e))
  unfold kindN
  rw [hm, ho]
  simp [hne]
theorem kind_cases (c : Nat) : kindN c = (1, 0) ∨ (∃ a, 1 ≤ a ∧ a ≤ 22 ∧ kindN c = (2, a)) ∨ kindN c = (3, 0) := by
  unfold kindN
  split
  · exact .inr (.inl ⟨22, by decide, by decide, rfl⟩)
  · split
    · rename_i h1 h2
      exact .inr (.inl ⟨markN c, by have := h2.2; have : ¬ markN c = 0 := fun e => h1 ⟨h2.1, e⟩; omega, by omega, rfl⟩)
    · split
      · exact .inr (.inr rfl)
      · exact .inl rfl
theorem repaired_lt {c : Nat} (h : c < 2 ^ 22) : repairedN c < 2 ^ 22 := by
  unfold repairedN
  split
  · rename_i h2
    rcases kind_cases c with h1 | ⟨a, h3, h4, h1⟩ | h1
    · rw [h1] at h2; exact absurd h2 (by decide)
    · rw [h1]
      exact Nat.xor_lt_two_pow h (Nat.pow_lt_pow_right (by decide) (by omega))
    · rw [h1] at h2; exact absurd h2 (by decide)
  · exact h
theorem kind_repaired (c : Nat) : kindN (repairedN c) = if (kindN c).1 = 2 then (1, 0) else kindN c := by
  unfold repairedN
  rcases kind_cases c with h1 | ⟨a, h3, h4, h1⟩ | h1
  · rw [h1]; simp [h1]
  · rw [h1]
    simp only [if_true]
    have hm : markN (c ^^^ 2 ^ (a - 1)) = 0 ∧ oddN (c ^^^ 2 ^ (a - 1)) = false := by
      rw [markN_lin, oddN_lin, mark_bit h3 h4, odd_bit h3 h4]
      unfold kindN at h1
      split at h1
      · rename_i h
        obtain rfl : a = 22 := by have := (Prod.mk.inj h1).2; omega
        rw [h.1, h.2]; exact ⟨rfl, rfl⟩
      · split at h1
        · rename_i h
          have ha := (Prod.mk.inj h1).2
          rw [h.1, ha, if_neg (by omega), Nat.xor_self]; exact ⟨rfl, rfl⟩
        · split at h1
          · exact absurd (Prod.mk.inj h1).1 (by decide)
          · exact absurd (Prod.mk.inj h1).1 (by decide)
    unfold kindN
    simp [hm.1, hm.2]
  · rw [h1]; simp [h1]
theorem xword_lt : ∀ (n i c k w : Nat), k + n ≤ 21 + k → w < 2 ^ k → xword n i c k w < 2 ^ (k + n)
  | 0, _, _, _, _, _, h => h
  | n + 1, i, c, k, w, hk, h => by
    simp only [xword]
    split
    · exact Nat.lt_of_lt_of_le (xword_lt n (i + 1) c k w (by omega) h) (Nat.pow_le_pow_right (by decide) (by omega))
    · have h2 : (2 : Nat) ^ k < 2 ^ (k + 1) := Nat.pow_lt_pow_right (by decide) (by omega)
      rw [show k + (n + 1) = k + 1 + n by omega]
      apply xword_lt n (i + 1) c (k + 1) _ (by omega)
      split
      · exact Nat.xor_lt_two_pow (by omega) h2
      · omega
def sw1 (b : Nat) : Nat := (b / 2 &&& 85) + (b &&& 85)
def sw2 (b : Nat) : Nat := (b / 4 &&& 51) + (b &&& 51)
def sw3 (b : Nat) : Nat := (b / 16 + b) &&& 15
def pc8 (b : Nat) : Nat := sw3 (sw2 (sw1 b))
theorem and_split (a b m n k : Nat) (ha : a < 2 ^ k) (hm : m < 2 ^ k) : (a + 2 ^ k * b) &&& (m + 2 ^ k * n) = (a &&& m) + 2 ^ k * (b &&& n) := by
  have hp := Nat.two_pow_pos k
  have h1 := Nat.div_add_mod ((a + 2 ^ k * b) &&& (m + 2 ^ k * n)) (2 ^ k)
  rw [Nat.and_mod_two_pow, Nat.and_div_two_pow, Nat.add_mul_mod_self_left, Nat.add_mul_mod_self_left, Nat.mod_eq_of_lt ha, Nat.mod_eq_of_lt hm, Nat.add_mul_div_left _ _ hp, Nat.add_mul_div_left _ _ hp, Nat.div_eq_of_lt ha, Nat.div_eq_of_lt hm, Nat.zero_add, Nat.zero_add] at h1
  omega
theorem and3 (a b c m : Nat) (ha : a < 256) (hb : b < 256) (hc : c < 256) (hm : m < 256) : (a + 256 * b + 65536 * c) &&& (m + 256 * m + 65536 * m + 16777216 * (m + 256 * m + 65536 * m + 16777216 * m + 4294967296 * m)) = (a &&& m) + 256 * (b &&& m) + 65536 * (c &&& m) := by
  have e1 : a + 256 * b + 65536 * c = a + 2 ^ 8 * (b + 2 ^ 8 * c) := by omega
  have e2 : m + 256 * m + 65536 * m + 16777216 * (m + 256 * m + 65536 * m + 16777216 * m + 4294967296 * m) = m + 2 ^ 8 * (m + 2 ^ 8 * (m + 2 ^ 8 * (m + 256 * m + 65536 * m + 16777216 * m + 4294967296 * m))) := by omega
  rw [e1, e2, and_split _ _ _ _ 8 (by omega) (by omega), and_split _ _ _ _ 8 (by omega) (by omega)]
  have e3 := and_split c 0 m (m + 256 * m + 65536 * m + 16777216 * m + 4294967296 * m) 8 (by omega) (by omega)
  rw [Nat.zero_and, Nat.mul_zero, Nat.add_zero, Nat.add_zero] at e3
  rw [e3]
  omega
theorem b85 : ∀ b : Fin 256, ∀ t : Fin 2, (b.val / 2 + 128 * t.val) &&& 85 = b.val / 2 &&& 85 := by decide +kernel
theorem b51 : ∀ b : Fin 256, ∀ t : Fin 4, (b.val / 4 + 64 * t.val) &&& 51 = b.val / 4 &&& 51 := by decide +kernel
theorem sw1_lt : ∀ b : Fin 256, sw1 b.val < 256 ∧ (sw2 (sw1 b.val) < 69 ∧ sw2 (sw1 b.val) % 16 < 5) ∧ pc8 b.val < 9 := by decide +kernel
def o1 (c : Nat) : Nat := (c / 2 &&& 6148914691236517205) + (c &&& 6148914691236517205)
def o2 (c : Nat) : Nat := (c / 4 &&& 3689348814741910323) + (c &&& 3689348814741910323)
def o3 (c : Nat) : Nat := (c / 16 + c) &&& 1085102592571150095
def o4 (c : Nat) : Nat := c + c / 256
def o5 (c : Nat) : Nat := c + c / 65536
def o6 (c : Nat) : Nat := c + c / 4294967296
theorem ones_nat {c : Nat} (hc : c < 2 ^ 22) : o6 (o5 (o4 (o3 (o2 (o1 c))))) &&& 127 = pc8 (c % 256) + pc8 (c / 256 % 256) + pc8 (c / 65536) ∧ o1 c < 2 ^ 62 ∧ o2 (o1 c) < 2 ^ 62 ∧ o3 (o2 (o1 c)) < 2 ^ 62 ∧ o4 (o3 (o2 (o1 c))) < 2 ^ 62 ∧ o5 (o4 (o3 (o2 (o1 c)))) < 2 ^ 62 ∧ o6 (o5 (o4 (o3 (o2 (o1 c))))) < 2 ^ 62 := by
  obtain ⟨b0, b1, b2, hb0, hb1, hb2, rfl⟩ : ∃ b0 b1 b2 : Nat, b0 < 256 ∧ b1 < 256 ∧ b2 < 64 ∧ c = b0 + 256 * b1 + 65536 * b2 := ⟨c % 256, c / 256 % 256, c / 65536, by omega, by omega, by omega, by omega⟩
  rw [show (b0 + 256 * b1 + 65536 * b2) % 256 = b0 by omega, show (b0 + 256 * b1 + 65536 * b2) / 256 % 256 = b1 by omega, show (b0 + 256 * b1 + 65536 * b2) / 65536 = b2 by omega]
  have l0 := sw1_lt ⟨b0, hb0⟩; have l1 := sw1_lt ⟨b1, hb1⟩; have l2 := sw1_lt ⟨b2, by omega⟩
  unfold pc8
  simp only [pc8] at l0 l1 l2
  have hs1 : o1 (b0 + 256 * b1 + 65536 * b2) = sw1 b0 + 256 * sw1 b1 + 65536 * sw1 b2 := by
    unfold o1
    have s1 := and3 (b0 / 2 + 128 * (b1 % 2)) (b1 / 2 + 128 * (b2 % 2)) (b2 / 2) 85 (by omega) (by omega) (by omega) (by omega)
    rw [b85 ⟨b0, hb0⟩ ⟨b1 % 2, by omega⟩, b85 ⟨b1, hb1⟩ ⟨b2 % 2, by omega⟩] at s1
    have t1 := and3 b0 b1 b2 85 hb0 hb1 (by omega) (by omega)
    simp only [Nat.reduceMul, Nat.reduceAdd] at s1 t1
    rw [show (b0 + 256 * b1 + 65536 * b2) / 2 = b0 / 2 + 128 * (b1 % 2) + 256 * (b1 / 2 + 128 * (b2 % 2)) + 65536 * (b2 / 2) by omega, s1, t1]
    unfold sw1; omega
  rw [hs1]
  generalize sw1 b0 = y0 at l0 ⊢
  generalize sw1 b1 = y1 at l1 ⊢
  generalize sw1 b2 = y2 at l2 ⊢
  clear hs1
  have hs2 : o2 (y0 + 256 * y1 + 65536 * y2) = sw2 y0 + 256 * sw2 y1 + 65536 * sw2 y2 := by
    unfold o2
    have s2 := and3 (y0 / 4 + 64 * (y1 % 4)) (y1 / 4 + 64 * (y2 % 4)) (y2 / 4) 51 (by omega) (by omega) (by omega) (by omega)
    rw [b51 ⟨y0, by omega⟩ ⟨y1 % 4, by omega⟩, b51 ⟨y1, by omega⟩ ⟨y2 % 4, by omega⟩] at s2
    have t2 := and3 y0 y1 y2 51 (by omega) (by omega) (by omega) (by omega)
    simp only [Nat.reduceMul, Nat.reduceAdd] at s2 t2
    rw [show (y0 + 256 * y1 + 65536 * y2) / 4 = y0 / 4 + 64 * (y1 % 4) + 256 * (y1 / 4 + 64 * (y2 % 4)) + 65536 * (y2 / 4) by omega, s2, t2]
    unfold sw2; omega
  rw [hs2]
  have y0l := l0.1; have y1l := l1.1; have y2l := l2.1
  generalize sw2 y0 = z0 at l0 ⊢
  generalize sw2 y1 = z1 at l1 ⊢
  generalize sw2 y2 = z2 at l2 ⊢
  clear hs2
  have b15 : ∀ z : Fin 69, ∀ t : Fin 5, (z.val / 16 + z.val + 16 * t.val) &&& 15 = (z.val / 16 + z.val) &&& 15 := by decide +kernel
  have hs3 : o3 (z0 + 256 * z1 + 65536 * z2) = sw3 z0 + 256 * sw3 z1 + 65536 * sw3 z2 := by
    unfold o3
    have s3 := and3 (z0 / 16 + z0 + 16 * (z1 % 16)) (z1 / 16 + z1 + 16 * (z2 % 16)) (z2 / 16 + z2) 15 (by omega) (by omega) (by omega) (by omega)
    rw [b15 ⟨z0, by omega⟩ ⟨z1 % 16, by omega⟩, b15 ⟨z1, by omega⟩ ⟨z2 % 16, by omega⟩] at s3
    simp only [Nat.reduceMul, Nat.reduceAdd] at s3
    rw [show (z0 + 256 * z1 + 65536 * z2) / 16 + (z0 + 256 * z1 + 65536 * z2) = z0 / 16 + z0 + 16 * (z1 % 16) + 256 * (z1 / 16 + z1 + 16 * (z2 % 16)) + 65536 * (z2 / 16 + z2) by omega, s3]
    rfl
  rw [hs3]
  clear hs3 b15
  generalize sw3 z0 = p0 at l0 ⊢
  generalize sw3 z1 = p1 at l1 ⊢
  generalize sw3 z2 = p2 at l2 ⊢
  have e4 : o4 (p0 + 256 * p1 + 65536 * p2) = p0 + 256 * p1 + 65536 * p2 + (p1 + 256 * p2) := by unfold o4; omega
  have e5 : o5 (p0 + 256 * p1 + 65536 * p2 + (p1 + 256 * p2)) = p0 + 256 * p1 + 65536 * p2 + (p1 + 256 * p2) + p2 := by unfold o5; omega
  have e6 : o6 (p0 + 256 * p1 + 65536 * p2 + (p1 + 256 * p2) + p2) = p0 + 256 * p1 + 65536 * p2 + (p1 + 256 * p2) + p2 := by unfold o6; omega
  rw [e4, e5, e6, nat_mask7]
  omega
theorem ones_parity {c : Nat} (hc : c < 2 ^ 22) : ((pc8 (c % 256) + pc8 (c / 256 % 256) + pc8 (c / 65536)) % 2 == 1) = oddN c := by
  have h0 : ∀ b : Fin 256, (pc8 b.val % 2 == 1) = oddN b.val ∧ oddN (256 * b.val) = oddN b.val ∧ (b.val < 64 → oddN (65536 * b.val) = oddN b.val) := by decide +kernel
  have k0 := h0 ⟨c % 256, by omega⟩; have k1 := h0 ⟨c / 256 % 256, by omega⟩; have k2 := h0 ⟨c / 65536, by omega⟩
  simp only at k0 k1 k2
  have e : c = (c % 256 ^^^ 256 * (c / 256 % 256)) ^^^ 65536 * (c / 65536) := by
    have e1 : c % 256 ^^^ 256 * (c / 256 % 256) = c % 256 + 256 * (c / 256 % 256) := by
      have := Nat.two_pow_add_eq_or_of_lt (i := 8) (b := c % 256) (by omega) (c / 256 % 256)
      apply Nat.eq_of_testBit_eq; intro i
      rw [show c % 256 + 256 * (c / 256 % 256) = 2 ^ 8 * (c / 256 % 256) + c % 256 by omega, this, show 256 * (c / 256 % 256) = 2 ^ 8 * (c / 256 % 256) by omega, Nat.testBit_xor, Nat.testBit_or, Nat.testBit_two_pow_mul]
      by_cases hi : 8 ≤ i
      · rw [Nat.testBit_lt_two_pow (show c % 256 < 2 ^ i from Nat.lt_of_lt_of_le (by omega) (Nat.pow_le_pow_right (n := 2) (by decide) hi))]; simp
      · simp [hi]
    rw [e1]
    have := Nat.two_pow_add_eq_or_of_lt (i := 16) (b := c % 256 + 256 * (c / 256 % 256)) (by omega) (c / 65536)
    apply Nat.eq_of_testBit_eq; intro i
    have e2 : c.testBit i = (2 ^ 16 * (c / 65536) + (c % 256 + 256 * (c / 256 % 256))).testBit i := by congr 1; omega
    rw [e2, this, show 65536 * (c / 65536) = 2 ^ 16 * (c / 65536) by omega, Nat.testBit_xor, Nat.testBit_or, Nat.testBit_two_pow_mul]
    by_cases hi : 16 ≤ i
    · rw [Nat.testBit_lt_two_pow (show c % 256 + 256 * (c / 256 % 256) < 2 ^ i from Nat.lt_of_lt_of_le (by omega) (Nat.pow_le_pow_right (n := 2) (by decide) hi))]; simp
    · simp [hi]
  have e3 : oddN c = ((oddN (c % 256) != oddN (256 * (c / 256 % 256))) != oddN (65536 * (c / 65536))) := by
    rw [← oddN_lin, ← oddN_lin, ← e]
  rw [e3, k1.2.1, k2.2.2 (by omega), ← k0.1, ← k1.1, ← k2.1]
  generalize pc8 (c % 256) = x; generalize pc8 (c / 256 % 256) = y; generalize pc8 (c / 65536) = z
  rcases Nat.mod_two_eq_zero_or_one x with hx | hx <;> rcases Nat.mod_two_eq_zero_or_one y with hy | hy <;> rcases Nat.mod_two_eq_zero_or_one z with hz | hz <;> simp [hx, hy, hz, Nat.add_mod]
theorem odd_ones {c : Nat} (hc : c < 2 ^ 22) : ((o6 (o5 (o4 (o3 (o2 (o1 c))))) &&& 127) % 2 == 1) = oddN c := by
  rw [(ones_nat hc).1]
  exact ones_parity hc
theorem kind_bounds (c : Nat) : 1 ≤ (kindN c).1 ∧ (kindN c).1 ≤ 3 ∧ (kindN c).2 ≤ 22 ∧ ((kindN c).1 = 2 → 1 ≤ (kindN c).2) := by
  rcases kind_cases c with h | ⟨a, h1, h2, h⟩ | h <;> rw [h] <;> simp <;> omega
theorem repairedN_not {c : Nat} (h : (kindN c).1 ≠ 2) : repairedN c = c := by unfold repairedN; rw [if_neg h]
theorem repairedN_idem (c : Nat) : repairedN (repairedN c) = repairedN c := by
  apply repairedN_not
  have h := kind_repaired c
  rw [h]
  split
  · decide
  · assumption
theorem decoded_rep {c : Nat} : (decodedN (repairedN c)).1 = (decodedN c).1 ∧ (decodedN (repairedN c)).2.2 = (decodedN c).2.2 ∧ (decodedN (repairedN c)).2.1 = 0 := by
  have h := kind_repaired c
  have hb := kind_bounds c
  have hr := repairedN_idem c
  unfold decodedN
  by_cases h2 : (kindN c).1 = 2
  · rw [if_pos h2] at h
    rw [h, hr, if_neg (show ¬ (kindN c).1 = 3 by omega)]
    exact ⟨rfl, rfl, rfl⟩
  · rw [if_neg h2] at h
    rw [h, hr]
    by_cases h3 : (kindN c).1 = 3
    · rw [if_pos h3]; exact ⟨rfl, rfl, rfl⟩
    · rw [if_neg h3]
      refine ⟨rfl, rfl, ?_⟩
      simp only
      omega
end Go.Proofs.P3
