/- What the library's functions on strings answer, as contracts. -/
import Derived.Test.YtjldiihndmkpfaaDoorD3d
import Derived.Test.YtjldiihndmkpfaaDoorTrydPlain
import Derived.Lib.ItoaMem
import Derived.Shelf.Strings.SlTrimAscii
set_option linter.unusedVariables false
set_option linter.unusedSimpArgs false
set_option maxRecDepth 10000
set_option maxHeartbeats 4000000
namespace Go.Proofs.P4
open Go.Ex Go.RowKit
theorem LP_cut {P : Program} {C : Cmd} {Q : E → St → Prop} {s : St} (Q' : E → St → Prop) (h : LP P C Q' s ⟨⟩ ⟨⟩) (hQ : ∀ e s', Q' e s' → Q e s') : LP P C Q s ⟨⟩ ⟨⟩ := by
  obtain ⟨I, ν, h0, hr⟩ := h
  refine ⟨I, ν, h0, fun s hs => wpA_mono C (fun e s' he => ?_) (hr s hs)⟩
  cases e with
  | norm => exact he
  | exit j => exact hQ _ _ he
  | ret => exact hQ _ _ he
theorem W_cut {P : Program} {C D : Cmd} {Q : E → St → Prop} {s : St} (I : St → Prop) (h : W P C (fun e s => e = .norm ∧ I s) s ⟨⟩ ⟨⟩) (hD : ∀ s, I s → W P D Q s ⟨⟩ ⟨⟩) : W P C (fun e s => seqK (fun s => W P D Q s ⟨⟩ ⟨⟩) Q e s ⟨⟩ ⟨⟩) s ⟨⟩ ⟨⟩ :=
  wpA_mono C (fun e s' he => by obtain ⟨rfl, hi⟩ := he; exact hD s' hi) h
theorem gPow {w : World} (h : GOk Tryd.prog w) : Lib.TabIs Tryd.prog w "internal/strconv.uint64pow10" .u64 Lib.pow10Tab :=
  h.1 ("internal/strconv.uint64pow10", .u64, Lib.pow10Tab) (by simp [gTabs]) (by
    have : (Tryd.prog.globalNamed "internal/strconv.uint64pow10").isSome = true := by kernel_rfl
    intro q
    rw [q] at this
    cases this)
theorem gLen {w : World} (h : GOk Tryd.prog w) : ∃ m, w.cell? ⟨0, 0, none⟩ = some (.int .i64 m) := h.2 0 (by kernel_rfl)
/-- A function of the library's that answers a pure value. -/
theorem OkF.lib {P : Program} {f : Nat} {args : List V} {v : V} (h : ∀ (φ0 : Nat → Nat × Nat) (S : Nat → Prop) (w : World) (vs : Array Value), GOk P w → Reps φ0 none0 S w args vs → Calls P f vs w fun e w' => ∃ x, e = .returned x ∧ Below w.heap.size w w' ∧ Rep φ0 none0 S w' v x) : OkF P f args (v, []) := by
  refine ⟨fun b hb => (by cases hb), fun w S φ0 vs hG hS hv => (h φ0 S w vs hG hv).mono fun e w' he => ?_⟩
  obtain ⟨x, rfl, hb, hr⟩ := he
  exact ⟨x, φ0, S, rfl, ⟨hb, hG, fun r hr => Nat.lt_of_lt_of_le (hS r hr) hb.size, fun id b hb => (by cases hb), fun i j b c hi => (by cases hi)⟩, fun _ h => h, fun _ h _ => h, hr⟩
theorem rep_str {φ : Nat → Nat × Nat} {h : Hp} {S : Nat → Prop} {w : World} {s : List UInt8} {v : Value} (r : Rep φ h S w (.str s) v) : v = .string ⟨s.toArray⟩ := by
  generalize hs : V.str s = u at r
  cases r <;> try cases hs
  rfl
theorem rep_str_mk {φ : Nat → Nat × Nat} {h : Hp} {S : Nat → Prop} {w : World} (s : List UInt8) : Rep φ h S w (.str s) (.string ⟨s.toArray⟩) := by
  have := Rep.str (φ := φ) (h := h) (S := S) (w := w) ⟨s.toArray⟩
  simpa using this
theorem reps1 {φ : Nat → Nat × Nat} {h : Hp} {S : Nat → Prop} {w : World} {a : V} {vs : Array Value} (hv : Reps φ h S w [a] vs) : ∃ x, vs = #[x] ∧ Rep φ h S w a x := by
  obtain ⟨h1, h2⟩ := hv
  obtain ⟨x, rfl⟩ : ∃ x, vs = #[x] := by
    obtain ⟨l⟩ := vs
    match l, h1 with
    | [x], _ => exact ⟨x, rfl⟩
  exact ⟨x, rfl, h2 0 _ x rfl rfl⟩
theorem reps2 {φ : Nat → Nat × Nat} {h : Hp} {S : Nat → Prop} {w : World} {a b : V} {vs : Array Value} (hv : Reps φ h S w [a, b] vs) : ∃ x y, vs = #[x, y] ∧ Rep φ h S w a x ∧ Rep φ h S w b y := by
  obtain ⟨h1, h2⟩ := hv
  obtain ⟨x, y, rfl⟩ : ∃ x y, vs = #[x, y] := by
    obtain ⟨l⟩ := vs
    match l, h1 with
    | [x, y], _ => exact ⟨x, y, rfl⟩
  exact ⟨x, y, rfl, h2 0 _ x rfl rfl, h2 1 _ y rfl rfl⟩
theorem Itoa_ok (n : Int) (h0 : -9223372036854775808 ≤ n) (h1 : n ≤ 9223372036854775807) : OkF Tryd.prog 51 [.int .i64 n] (.str (Lib.itoa n), []) := by
  refine OkF.lib fun φ S w vs hG hv => ?_
  obtain ⟨x, rfl, hx⟩ := reps1 hv
  cases hx
  refine (Tryd.strconv_Itoa n h0 h1 w (gPow hG)).mono fun e w' he => ?_
  obtain ⟨rfl, k, os, rfl⟩ := he
  exact ⟨_, rfl, Lib.below_grow _ _ (Nat.le_refl _) k os, rep_str_mk _⟩
theorem IndexByte_ok (s : List UInt8) (c : Int) : OkF Tryd.prog 66 [.str s, .int .u8 c] (.int .i64 (Lib.indexByte s c.toNat.toUInt8), []) := by
  refine OkF.lib fun φ S w vs hG hv => ?_
  obtain ⟨x, y, rfl, hx, hy⟩ := reps2 hv
  cases hy
  have := rep_str hx
  subst this
  refine (Tryd.strings_IndexByte ⟨s.toArray⟩ c w).mono fun e w' he => ?_
  obtain ⟨rfl, rfl⟩ := he
  exact ⟨_, rfl, Below.refl _ _, .int _ _⟩
theorem Cut_ok (s sep : List UInt8) (hs : s.length < 4294967281) : OkF Tryd.prog 52 [.str s, .str sep] (.tup [.str (Lib.cut s sep).1, .str (Lib.cut s sep).2.1, .bool (Lib.cut s sep).2.2], []) := by
  refine OkF.lib fun φ S w vs hG hv => ?_
  obtain ⟨x, y, rfl, hx, hy⟩ := reps2 hv
  have := rep_str hx
  subst this
  have := rep_str hy
  subst this
  obtain ⟨m, hm⟩ := gLen hG
  refine (Tryd.strings_Cut ⟨s.toArray⟩ ⟨sep.toArray⟩ m w (by simpa [ByteArray.size] using hs) hm).mono fun e w' he => ?_
  obtain ⟨rfl, n, rfl⟩ := he
  refine ⟨_, rfl, (Below.refl _ _).trans ⟨rfl, rfl, rfl, Nat.le_refl _, fun _ _ => rfl⟩, .tup _ _ rfl fun i c v hc hv => ?_⟩
  match i with
  | 0 => simp at hc hv; subst hc hv; exact rep_str_mk _
  | 1 => simp at hc hv; subst hc hv; exact rep_str_mk _
  | 2 => simp at hc hv; subst hc hv; exact .bool _
  | i + 3 => simp at hc
theorem Atoi_ok (s : List UInt8) (n : Int) (hl : s.length ≤ 18) (h : Lib.atoi s = some n) : OkF Tryd.prog 76 [.str s] (.tup [.int .i64 n, .junk], []) := by
  refine OkF.lib fun φ S w vs hG hv => ?_
  obtain ⟨x, rfl, hx⟩ := reps1 hv
  have := rep_str hx
  subst this
  refine (Tryd.strconv_Atoi ⟨s.toArray⟩ n (by simpa [ByteArray.size] using hl) h w).mono fun e w' he => ?_
  obtain ⟨rfl, t, rfl⟩ := he
  refine ⟨_, rfl, ?_, .tup _ _ rfl fun i c v hc hv => ?_⟩
  · exact ⟨rfl, rfl, rfl, by rw [Lib.bytesWorld_size]; omega, fun k hk => Lib.bytesWorld_at_old w 5 t k hk⟩
  match i with
  | 0 => simp at hc hv; subst hc hv; exact .int _ _
  | 1 => simp at hc hv; subst hc hv; exact .junk _
  | i + 2 => simp at hc
def digs : List UInt8 := [48, 49, 50, 51, 52, 53, 54, 55, 56, 57]
theorem Trim_ok (s : List UInt8) (hs : s.length < 4294967281) : OkF Tryd.prog 75 [.str s, .str digs] (.str (Lib.trimS s digs), []) := by
  refine OkF.lib fun φ S w vs hG hv => ?_
  obtain ⟨x, y, rfl, hx, hy⟩ := reps2 hv
  have := rep_str hx
  subst this
  have := rep_str hy
  subst this
  refine (Any.strings_Trim_laid Tryd.lays160 (by kernel_rfl) ⟨s.toArray⟩ ⟨digs.toArray⟩ w (by simp [ByteArray.size]; omega) (by decide) (ascii_of_all (by decide))).mono fun e w' he => ?_
  obtain ⟨rfl, hb⟩ := he
  exact ⟨_, rfl, hb, rep_str_mk _⟩
end Go.Proofs.P4

