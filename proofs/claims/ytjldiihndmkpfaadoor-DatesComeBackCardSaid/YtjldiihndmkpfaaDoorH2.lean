/- Numbers in a fixed width, the texts of dates, in plain Lean. -/
import Derived.Test.YtjldiihndmkpfaaDoorH1
set_option linter.unusedVariables false
set_option linter.unusedSimpArgs false
set_option maxRecDepth 10000
set_option maxHeartbeats 8000000
namespace Go.Proofs.P4
open Go.Ex
theorem digB {i : Nat} (h : i < 10) : 48 ≤ (UInt8.ofNat (48 + i)).toNat ∧ (UInt8.ofNat (48 + i)).toNat ≤ 57 := by
  have : ∀ i : Fin 10, 48 ≤ (UInt8.ofNat (48 + i.val)).toNat ∧ (UInt8.ofNat (48 + i.val)).toNat ≤ 57 := by decide +kernel
  exact this ⟨i, h⟩
def fx : Nat → Nat → List UInt8
  | 0, _ => []
  | w + 1, n => fx w (n / 10) ++ [UInt8.ofNat (48 + n % 10)]
theorem fx_len : ∀ w n, (fx w n).length = w
  | 0, _ => rfl
  | w + 1, n => by rw [fx, List.length_append, fx_len]; rfl
theorem fx_zero : ∀ w, fx w 0 = List.replicate w 48
  | 0 => rfl
  | w + 1 => by
    rw [fx, List.replicate_succ', show 0 / 10 = 0 from rfl, fx_zero w]
    rfl
def pad (n w : Nat) : List UInt8 := List.replicate (w - (Lib.decDigits n).length) 48 ++ Lib.decDigits n
theorem pad_fx : ∀ (w n : Nat), n < 10 ^ (w + 1) → pad n (w + 1) = fx (w + 1) n
  | w, n, h => by
    by_cases q : n < 10
    · unfold pad
      rw [Lib.decDigits_one q, fx, show n / 10 = 0 by omega, fx_zero, show n % 10 = n by omega]
      rfl
    · match w, h with
      | 0, h => simp at h; omega
      | w + 1, h =>
        have ih := pad_fx w (n / 10) (by rw [Nat.pow_succ] at h; omega)
        rw [fx, ← ih]
        unfold pad
        rw [Lib.decDigits, dif_neg q]
        simp only [List.length_append, List.length_singleton]
        rw [show w + 1 + 1 - ((Lib.decDigits (n / 10)).length + 1) = w + 1 - (Lib.decDigits (n / 10)).length by omega, List.append_assoc]
def vl (s : List UInt8) : Nat := s.foldl (fun n b => n * 10 + (b.toNat - 48)) 0
theorem vl_snoc (s : List UInt8) (b : UInt8) : vl (s ++ [b]) = vl s * 10 + (b.toNat - 48) := by
  unfold vl
  rw [List.foldl_append]
  rfl
def isD (b : UInt8) : Prop := 48 ≤ b.toNat ∧ b.toNat ≤ 57
theorem ofNat_toNat {i : Nat} (h : i < 10) : (UInt8.ofNat (48 + i)).toNat = 48 + i := by
  have : ∀ i : Fin 10, (UInt8.ofNat (48 + i.val)).toNat = 48 + i.val := by decide +kernel
  exact this ⟨i, h⟩
theorem vl_fx : ∀ (w n : Nat), n < 10 ^ w → vl (fx w n) = n
  | 0, n, h => by simp at h; subst h; rfl
  | w + 1, n, h => by
    rw [fx, vl_snoc, vl_fx w (n / 10) (by rw [Nat.pow_succ] at h; omega), ofNat_toNat (by omega)]
    omega
theorem fx_isD : ∀ (w n : Nat), ∀ b ∈ fx w n, isD b
  | 0, n, b, h => by cases h
  | w + 1, n, b, h => by
    rw [fx, List.mem_append, List.mem_singleton] at h
    rcases h with h | rfl
    · exact fx_isD w _ b h
    · exact digB (by omega)
theorem snoc_of {α : Type} {s : List α} {w : Nat} (h : s.length = w + 1) : ∃ r b, s = r ++ [b] ∧ r.length = w := by
  have hn : s ≠ [] := fun q => by rw [q] at h; cases h
  exact ⟨s.dropLast, s.getLast hn, (List.dropLast_concat_getLast hn).symm, by rw [List.length_dropLast, h]; rfl⟩
theorem fx_vl : ∀ (w : Nat) (s : List UInt8), s.length = w → (∀ b ∈ s, isD b) → fx w (vl s) = s ∧ vl s < 10 ^ w
  | 0, s, h, hd => by
    rw [List.length_eq_zero_iff] at h
    subst h
    exact ⟨rfl, by decide⟩
  | w + 1, s, h, hd => by
    obtain ⟨r, b, rfl, hr⟩ := snoc_of h
    obtain ⟨h1, h2⟩ := fx_vl w r hr fun c hc => hd c (List.mem_append_left _ hc)
    obtain ⟨b1, b2⟩ := hd b (by simp)
    rw [vl_snoc, fx, Nat.pow_succ]
    refine ⟨?_, by omega⟩
    rw [show (vl r * 10 + (b.toNat - 48)) / 10 = vl r by omega, show (vl r * 10 + (b.toNat - 48)) % 10 = b.toNat - 48 by omega, h1, show 48 + (b.toNat - 48) = b.toNat by omega, UInt8.ofNat_toNat]
theorem bl_app : ∀ (a b : List UInt8) {x y : List UInt8}, a.length = b.length → Op.bytesLess (a ++ x) (b ++ y) = (Op.bytesLess a b || (a == b && Op.bytesLess x y))
  | [], [], x, y, _ => by simp [Op.bytesLess]
  | [], _ :: _, _, _, h => by cases h
  | _ :: _, [], _, _, h => by cases h
  | a :: r, b :: s, x, y, h => by
    rw [List.cons_append, List.cons_append, Op.bytesLess, bl_app r s (by simpa using h), Op.bytesLess]
    rw [List.cons_beq_cons]
    cases decide (a < b) <;> cases (a == b) <;> cases Op.bytesLess r s <;> cases (r == s) <;> simp
theorem bl_irr : ∀ (a : List UInt8), Op.bytesLess a a = false
  | [] => rfl
  | a :: r => by rw [Op.bytesLess, bl_irr r]; simp
theorem bl_asymm : ∀ (a b : List UInt8), Op.bytesLess a b = true → Op.bytesLess b a = false
  | [], [], h => rfl
  | [], _ :: _, h => rfl
  | _ :: _, [], h => by simp [Op.bytesLess] at h
  | a :: r, b :: s, h => by
    rw [Op.bytesLess] at h ⊢
    simp only [Bool.or_eq_true, Bool.and_eq_true, decide_eq_true_eq, beq_iff_eq] at h
    simp only [Bool.or_eq_false_iff, Bool.and_eq_false_iff, decide_eq_false_iff_not, beq_eq_false_iff_ne]
    rcases h with h | ⟨rfl, h⟩
    · exact ⟨fun q => UInt8.lt_irrefl _ (UInt8.lt_trans h q), .inl fun q => by subst q; exact UInt8.lt_irrefl _ h⟩
    · exact ⟨UInt8.lt_irrefl _, .inr (bl_asymm r s h)⟩
theorem fx_lt : ∀ {w n m : Nat}, n < m → m < 10 ^ w → Op.bytesLess (fx w n) (fx w m) = true
  | 0, n, m, h, hm => by simp at hm; omega
  | w + 1, n, m, h, hm => by
    rw [fx, fx, bl_app _ _ (by rw [fx_len, fx_len])]
    rw [Nat.pow_succ] at hm
    by_cases q : n / 10 < m / 10
    · rw [fx_lt q (by omega)]
      rfl
    · have e : n / 10 = m / 10 := by omega
      have : ∀ i j : Fin 10, i.val < j.val → Op.bytesLess [UInt8.ofNat (48 + i.val)] [UInt8.ofNat (48 + j.val)] = true := by decide +kernel
      rw [e, this ⟨n % 10, by omega⟩ ⟨m % 10, by omega⟩ (by simp only; omega)]
      simp
/-- Two parts: the order. -/
theorem bl_lt {w n m : Nat} {x y : List UInt8} (h : n < m) (hm : m < 10 ^ w) : Op.bytesLess (fx w n ++ x) (fx w m ++ y) = true := by
  rw [bl_app _ _ (by rw [fx_len, fx_len]), fx_lt h hm]
  rfl
theorem bl_eq (a : List UInt8) {x y : List UInt8} (h : Op.bytesLess x y = true) : Op.bytesLess (a ++ x) (a ++ y) = true := by
  rw [bl_app _ _ rfl, h]
  simp
theorem bl_cons (a : UInt8) {x y : List UInt8} (h : Op.bytesLess x y = true) : Op.bytesLess (a :: x) (a :: y) = true := bl_eq [a] h
/-- The text of a date. -/
def dtx (y m d h mi s ms : Nat) : List UInt8 := fx 4 y ++ 45 :: (fx 2 m ++ 45 :: (fx 2 d ++ 84 :: (fx 2 h ++ 58 :: (fx 2 mi ++ 58 :: (fx 2 s ++ 46 :: fx 3 ms)))))
def form : List UInt8 := [48, 48, 48, 48, 45, 48, 48, 45, 48, 48, 84, 48, 48, 58, 48, 48, 58, 48, 48, 46, 48, 48, 48]
def okc (f c : UInt8) : Prop := if f = 48 then isD c else c = f
/-- Of the form of a date. -/
def Fm (s : List UInt8) : Prop := s.length = 23 ∧ ∀ (i : Nat) f c, form[i]? = some f → s[i]? = some c → okc f c
theorem all_cons {P : Nat → UInt8 → UInt8 → Prop} {a b : UInt8} {f c : List UInt8} : (∀ (i : Nat) x y, (a :: f)[i]? = some x → (b :: c)[i]? = some y → P i x y) ↔ P 0 a b ∧ ∀ (i : Nat) x y, f[i]? = some x → c[i]? = some y → P (i + 1) x y :=
  ⟨fun h => ⟨h 0 a b rfl rfl, fun i x y hx hy => h (i + 1) x y hx hy⟩, fun ⟨h0, h⟩ i x y hx hy => match i with
    | 0 => by cases hx; cases hy; exact h0
    | i + 1 => h i x y hx hy⟩
theorem all_nil {P : Nat → UInt8 → UInt8 → Prop} : (∀ (i : Nat) x y, ([] : List UInt8)[i]? = some x → ([] : List UInt8)[i]? = some y → P i x y) ↔ True := ⟨fun _ => trivial, fun _ i x y h => by simp at h⟩
def seg (s : List UInt8) (i n : Nat) : List UInt8 := (s.drop i).take n
theorem seg_dtx (y m d h mi s ms : Nat) : let t := dtx y m d h mi s ms
    seg t 0 4 = fx 4 y ∧ seg t 5 2 = fx 2 m ∧ seg t 8 2 = fx 2 d ∧ seg t 11 2 = fx 2 h ∧ seg t 14 2 = fx 2 mi ∧ seg t 17 2 = fx 2 s ∧ seg t 20 3 = fx 3 ms := by
  simp only [dtx, fx, seg, List.nil_append, List.append_assoc, List.cons_append]
  try exact ⟨rfl, rfl, rfl, rfl, rfl, rfl, rfl⟩
theorem fm_dtx (y m d h mi s ms : Nat) : Fm (dtx y m d h mi s ms) := by
  have hd : ∀ n, isD (UInt8.ofNat (48 + n % 10)) := fun n => digB (by omega)
  have e : dtx y m d h mi s ms = dtx y m d h mi s ms := rfl
  conv at e => rhs; simp only [dtx, fx, List.nil_append, List.append_assoc, List.cons_append]
  refine ⟨by rw [e]; rfl, ?_⟩
  rw [e]
  simp only [form, all_cons, all_nil, okc, if_true, if_neg (show ¬ (45 : UInt8) = 48 by decide), if_neg (show ¬ (84 : UInt8) = 48 by decide), if_neg (show ¬ (58 : UInt8) = 48 by decide), if_neg (show ¬ (46 : UInt8) = 48 by decide), hd, and_true, true_and, List.nil_append]
theorem len23 {s : List UInt8} (h : s.length = 23) : ∃ a b c d e f g i j k l m n o p q r t u v w x y, s = [a, b, c, d, e, f, g, i, j, k, l, m, n, o, p, q, r, t, u, v, w, x, y] := by
  match s, h with
  | [a, b, c, d, e, f, g, i, j, k, l, m, n, o, p, q, r, t, u, v, w, x, y], _ => exact ⟨a, b, c, d, e, f, g, i, j, k, l, m, n, o, p, q, r, t, u, v, w, x, y, rfl⟩
structure Parts (s : List UInt8) (y m d h mi sc ms : Nat) : Prop where
  e : dtx y m d h mi sc ms = s
  y1 : y < 10000
  m1 : m < 100
  d1 : d < 100
  h1 : h < 100
  i1 : mi < 100
  s1 : sc < 100
  z1 : ms < 1000
theorem fm_parts {s : List UInt8} (h : Fm s) : Parts s (vl (seg s 0 4)) (vl (seg s 5 2)) (vl (seg s 8 2)) (vl (seg s 11 2)) (vl (seg s 14 2)) (vl (seg s 17 2)) (vl (seg s 20 3)) := by
  obtain ⟨hl, hf⟩ := h
  obtain ⟨a, b, c, d, e, f, g, i, j, k, l, m, n, o, p, q, r, t, u, v, w, x, y, rfl⟩ := len23 hl
  simp only [form, all_cons, all_nil, okc, if_true, if_neg (show ¬ (45 : UInt8) = 48 by decide), if_neg (show ¬ (84 : UInt8) = 48 by decide), if_neg (show ¬ (58 : UInt8) = 48 by decide), if_neg (show ¬ (46 : UInt8) = 48 by decide), and_true] at hf
  obtain ⟨f0, f1, f2, f3, rfl, f5, f6, rfl, f8, f9, rfl, f11, f12, rfl, f14, f15, rfl, f17, f18, rfl, f20, f21, f22⟩ := hf
  obtain ⟨a1, a2⟩ := fx_vl 4 [a, b, c, d] rfl (by simp [f0, f1, f2, f3])
  obtain ⟨b1, b2⟩ := fx_vl 2 [f, g] rfl (by simp [f5, f6])
  obtain ⟨c1, c2⟩ := fx_vl 2 [j, k] rfl (by simp [f8, f9])
  obtain ⟨d1, d2⟩ := fx_vl 2 [m, n] rfl (by simp [f11, f12])
  obtain ⟨e1, e2⟩ := fx_vl 2 [p, q] rfl (by simp [f14, f15])
  obtain ⟨g1, g2⟩ := fx_vl 2 [t, u] rfl (by simp [f17, f18])
  obtain ⟨h1, h2⟩ := fx_vl 3 [w, x, y] rfl (by simp [f20, f21, f22])
  exact ⟨by
    show fx 4 (vl [a, b, c, d]) ++ 45 :: (fx 2 (vl [f, g]) ++ 45 :: (fx 2 (vl [j, k]) ++ 84 :: (fx 2 (vl [m, n]) ++ 58 :: (fx 2 (vl [p, q]) ++ 58 :: (fx 2 (vl [t, u]) ++ 46 :: fx 3 (vl [w, x, y])))))) = _
    rw [a1, b1, c1, d1, e1, g1, h1]
    rfl, a2, b2, c2, d2, e2, g2, h2⟩
theorem fm_back {s : List UInt8} {y m d h mi sc ms : Nat} (h1 : Parts s y m d h mi sc ms) : vl (seg s 0 4) = y ∧ vl (seg s 5 2) = m ∧ vl (seg s 8 2) = d ∧ vl (seg s 11 2) = h ∧ vl (seg s 14 2) = mi ∧ vl (seg s 17 2) = sc ∧ vl (seg s 20 3) = ms := by
  obtain ⟨e, y1, m1, d1, h1, i1, s1, z1⟩ := h1
  obtain ⟨a, b, c, d', e', f, g⟩ := seg_dtx y m d h mi sc ms
  rw [e] at a b c d' e' f g
  rw [a, b, c, d', e', f, g]
  exact ⟨vl_fx 4 _ y1, vl_fx 2 _ m1, vl_fx 2 _ d1, vl_fx 2 _ h1, vl_fx 2 _ i1, vl_fx 2 _ s1, vl_fx 3 _ z1⟩
/-- Dates, part for part, are in the order of their texts. -/
theorem dtx_lt {y m d h mi s ms y' m' d' h' mi' s' ms' : Nat} (y1 : y' < 10000) (m1 : m' < 100) (d1 : d' < 100) (h1 : h' < 100) (i1 : mi' < 100) (s1 : s' < 100) (z1 : ms' < 1000)
    (hl : y < y' ∨ y = y' ∧ (m < m' ∨ m = m' ∧ (d < d' ∨ d = d' ∧ (h < h' ∨ h = h' ∧ (mi < mi' ∨ mi = mi' ∧ (s < s' ∨ s = s' ∧ ms < ms')))))) : Op.bytesLess (dtx y m d h mi s ms) (dtx y' m' d' h' mi' s' ms') = true := by
  unfold dtx
  rcases hl with hl | ⟨rfl, hl | ⟨rfl, hl | ⟨rfl, hl | ⟨rfl, hl | ⟨rfl, hl | ⟨rfl, hl⟩⟩⟩⟩⟩⟩
  · exact bl_lt hl y1
  · exact bl_eq _ (bl_cons _ (bl_lt hl m1))
  · exact bl_eq _ (bl_cons _ (bl_eq _ (bl_cons _ (bl_lt hl d1))))
  · exact bl_eq _ (bl_cons _ (bl_eq _ (bl_cons _ (bl_eq _ (bl_cons _ (bl_lt hl h1))))))
  · exact bl_eq _ (bl_cons _ (bl_eq _ (bl_cons _ (bl_eq _ (bl_cons _ (bl_eq _ (bl_cons _ (bl_lt hl i1))))))))
  · exact bl_eq _ (bl_cons _ (bl_eq _ (bl_cons _ (bl_eq _ (bl_cons _ (bl_eq _ (bl_cons _ (bl_eq _ (bl_cons _ (bl_lt hl s1))))))))))
  · exact bl_eq _ (bl_cons _ (bl_eq _ (bl_cons _ (bl_eq _ (bl_cons _ (bl_eq _ (bl_cons _ (bl_eq _ (bl_cons _ (bl_eq _ (bl_cons _ (fx_lt hl z1))))))))))))
end Go.Proofs.P4

