/- What strings.SplitN answers, as a contract; ; What strings.CutPrefix and Join answer, as contracts; Small functions of chapter 6's texts: names shown and read, rows of bytes; A line of a schedule read: our side; A schedule read of a text: our side; The text of a schedule: our side. -/
import Derived.Test.YtaegjihmpgdfcaaDoorA5
import Derived.Shelf.Strings.Builder1
import Derived.Shelf.Strings.Builder2
import Derived.Shelf.Strings.OnBuilder
import Derived.Shelf.Small.Strs
import Derived.Shelf.Small.Wraps
import Derived.Shelf.Strings.BuilderF
import Derived.Shelf.Strings.BuilderK
import Derived.Shelf.Utf8.RuneCount
import Derived.Shelf.Strconv.Itoa0
import Derived.Shelf.Strconv.Itoa1
import Derived.Shelf.LaysM
import Derived.Shelf.Strconv.Itoa2
import Derived.Shelf.Strconv.Itoa3
import Derived.Shelf.Strings.Search1
import Derived.Shelf.Strings.Search2
import Derived.Shelf.Strings.Search3
import Derived.Shelf.Strings.Cut
import Derived.Shelf.Strings.Count
import Derived.Shelf.Strings.Shaped
import Derived.Shelf.Strings.Prefix
import Derived.Shelf.Strings.Split
import Derived.Shelf.Strings.SplitShaped
import Derived.Shelf.Unicode.Decode
import Derived.Shelf.Strings.RuneCount
import Derived.Shelf.Strings.Explode
import Derived.Shelf.Unicode.DecodeSlow
import Derived.Shelf.Unicode.DecodeAny
import Derived.Ground.Names2Prog
import Derived.Shelf.Slices.SearchI
import Derived.Test.YtaegjihmpgdfcaaDoorProg
section
set_option linter.unusedVariables false
set_option linter.unusedSimpArgs false
set_option maxRecDepth 10000
set_option maxHeartbeats 4000000
namespace Go.Proofs.P4
open Go.Ex Go.RowKit
theorem reps3 {φ : Nat → Nat × Nat} {h : Hp} {S : Nat → Prop} {w : World} {a b c : V} {vs : Array Value} (hv : Reps φ h S w [a, b, c] vs) : ∃ x y z, vs = #[x, y, z] ∧ Rep φ h S w a x ∧ Rep φ h S w b y ∧ Rep φ h S w c z := by
  obtain ⟨h1, h2⟩ := hv
  obtain ⟨x, y, z, rfl⟩ : ∃ x y z, vs = #[x, y, z] := by
    obtain ⟨l⟩ := vs
    match l, h1 with
    | [x, y, z], _ => exact ⟨x, y, z, rfl⟩
  exact ⟨x, y, z, rfl, h2 0 _ x rfl rfl, h2 1 _ y rfl rfl, h2 2 _ z rfl rfl⟩
theorem SplitN_ok (s : List UInt8) (hs : s.length < 4294967281) : OkF Tryd.prog 58 [.str s, .str [32], .int .i64 5] (rS (Lib.splitN s [32] 5), []) := by
  refine ⟨fun b hb => (by cases hb), fun w S φ0 vs hG hS hv => ?_⟩
  obtain ⟨x, y, z, rfl, hx, hy, hz⟩ := reps3 hv
  cases hz
  have := rep_str hx
  subst this
  have := rep_str hy
  subst this
  obtain ⟨m, hm⟩ := gLen hG
  refine (Tryd.strings_SplitN ⟨s.toArray⟩ ⟨#[32]⟩ 5 m w (by simpa [ByteArray.size] using hs) hm (by decide) (by decide) (by decide)).mono fun e w' he => ?_
  obtain ⟨rfl, rfl⟩ := he
  have hsz : (⟨s.toArray⟩ : ByteArray).size = s.length := by simp [ByteArray.size]
  rw [hsz]
  have hd : (Lib.splitB ⟨#[32]⟩ 0 (min 5 (s.length + 1) - 1) ⟨s.toArray⟩).map (·.data.toList) = Lib.splitN s [32] 5 := by
    rw [Lib.splitB_data]
    rfl
  have hle : (Lib.splitB ⟨#[32]⟩ 0 (min 5 (s.length + 1) - 1) ⟨s.toArray⟩).length ≤ min 5 (s.length + 1) := by
    have := spl_len (min 5 (s.length + 1) - 1) s
    have h2 := congrArg List.length hd
    rw [List.length_map] at h2
    rw [h2]
    have h3 : (Lib.splitN s [32] 5).length ≤ min 5 (s.length + 1) - 1 + 1 := this
    omega
  generalize Lib.splitB ⟨#[32]⟩ 0 (min 5 (s.length + 1) - 1) ⟨s.toArray⟩ = L at *
  generalize min 5 (s.length + 1) = N at *
  rw [← hd]
  unfold Lib.cellsOf
  have hb := (Below.refl w.heap.size w).alloc (Nat.le_refl _) (.cells (L.map Value.string ++ List.replicate (N - L.length) (Value.string ByteArray.empty)).toArray 9)
  refine ⟨_, φ0, fun r => S r ∨ r = w.heap.size, rfl, ⟨hb, hG, fun r hr => ?_, fun id b hb => (by cases hb), fun i j b c hi => (by cases hi)⟩, fun r h => .inl h, fun r h hl => ?_, ?_⟩
  · rcases hr with q | q
    · exact Nat.lt_of_lt_of_le (hS r q) hb.size
    · subst q
      simp
  · rcases h with q | q
    · exact q
    · omega
  · show Rep _ _ _ _ (V.ro (L.map fun x => x.data.toList).length (fl Cd.str (L.map fun x => x.data.toList))) _
    rw [show (L.map fun x => x.data.toList).length = L.length from List.length_map ..]
    refine .ro _ _ _ _ (L.map Value.string).toArray hle (fl_pure _) (fun _ => ⟨rfl, .inr rfl, _, 9, (0, 0), alloc_at _, ?_, ?_, fun i v hi hv => ?_⟩) (fun i x v hx hv => ?_)
    · simp [fl_str]
      try omega
    · simp [fl_str]
      try (rw [List.take_left' (by simp)])
    · rw [fl_str] at hi
      simp at hi hv
      rw [List.getElem?_append_left (by simpa using hi)] at hv
      simp at hv
      obtain ⟨a, _, rfl⟩ := hv
      rfl
    · rw [fl_str] at hx
      simp at hx hv
      obtain ⟨a, ha, rfl⟩ := hx
      rw [ha] at hv
      simp at hv
      subst hv
      exact .str a
end Go.Proofs.P4
end
section
namespace Go.Proofs
open Go.Shelf
def Tryd.lays156_ren : Go.Shelf.Ren := ⟨fun | 156 => 26 | 165 => 54 | 166 => 55 | 169 => 56 | 240 => 83 | 241 => 84 | 276 => 98 | 277 => 99 | n => n, fun | 31 => 40 | 9 => 9 | 3 => 3 | 4 => 4 | 0 => 0 | 20 => 20 | 72 => 94 | 76 => 98 | 70 => 91 | 37 => 92 | 75 => 97 | 127 => 119 | 164 => 124 | 5 => 5 | 80 => 100 | n => n, fun | n => n⟩
theorem Tryd.lays156 : Go.Proofs.Lays.n156 Tryd.prog Tryd.lays156_ren := {
  mixed := by kernel_rfl
  f156 := Tryd.func26.trans (congrArg some (by kernel_rfl))
  f165 := Tryd.func54.trans (congrArg some (by kernel_rfl))
  f166 := Tryd.func55.trans (congrArg some (by kernel_rfl))
  f169 := Tryd.func56.trans (congrArg some (by kernel_rfl))
  f240 := Tryd.func83.trans (congrArg some (by kernel_rfl))
  f241 := Tryd.func84.trans (congrArg some (by kernel_rfl))
  f276 := Tryd.func98.trans (congrArg some (by kernel_rfl))
  f277 := Tryd.func99.trans (congrArg some (by kernel_rfl))
  t0 := Tryd.underlying0
  a0 := Tryd.isAgg0
  z0 := Tryd.sizeOf0
  v0 := Tryd.zeroValue0
  t3 := Tryd.underlying3
  a3 := Tryd.isAgg3
  z3 := Tryd.sizeOf3
  v3 := Tryd.zeroValue3
  t4 := Tryd.underlying4
  a4 := Tryd.isAgg4
  z4 := Tryd.sizeOf4
  v4 := Tryd.zeroValue4
  t9 := Tryd.underlying9
  a9 := Tryd.isAgg9
  z9 := Tryd.sizeOf9
  v9 := Tryd.zeroValue9
  t20 := Tryd.underlying20
  a20 := Tryd.isAgg20
  z20 := Tryd.sizeOf20
  v20 := Tryd.zeroValue20
  t31 := Tryd.underlying40
  a31 := Tryd.isAgg40
  z31 := Tryd.sizeOf40
  v31 := Tryd.zeroValue40
  t37 := Tryd.underlying92
  a37 := Tryd.isAgg92
  z37 := Tryd.sizeOf92
  v37 := Tryd.zeroValue92
  t70 := Tryd.underlying91
  a70 := Tryd.isAgg91
  z70 := Tryd.sizeOf91
  v70 := Tryd.zeroValue91
  t72 := Tryd.underlying94
  a72 := Tryd.isAgg94
  z72 := Tryd.sizeOf94
  v72 := Tryd.zeroValue94
  t75 := Tryd.underlying97
  a75 := Tryd.isAgg97
  z75 := Tryd.sizeOf97
  v75 := Tryd.zeroValue97
  t76 := Tryd.underlying98
  a76 := Tryd.isAgg98
  z76 := Tryd.sizeOf98
  v76 := Tryd.zeroValue98
  t127 := Tryd.underlying119
  a127 := Tryd.isAgg119
  z127 := Tryd.sizeOf119
  v127 := Tryd.zeroValue119
  t164 := Tryd.underlying124
  a164 := Tryd.isAgg124
  z164 := Tryd.sizeOf124
  v164 := Tryd.zeroValue124 }
theorem Tryd.Builder_Extra_156 : Builder.Extra Tryd.prog Tryd.lays156_ren := {
  sizeBuilder := by kernel_rfl
  liesBuilder := by kernel_rfl
  t5 := Tryd.underlying5
  a5 := Tryd.isAgg5
  z5 := Tryd.sizeOf5
  v5 := Tryd.zeroValue5
  infoByte := by kernel_rfl
  cellsByte := by kernel_rfl
  sizeByte := by kernel_rfl
  neB5 := by decide }
open Go.RowKit in
/-- strings.Join: "Join concatenates the elements of its first argument to create a single string. The separator string sep is placed between elements in the resulting string.": HOWEVER MANY ELEMENTS. Below the heap's end the world is as it was. (LAID: no walk: one application.) -/
theorem Tryd.strings_Join (bk o c : Nat) (xs : List ByteArray) (sep : ByteArray) (w : World) (hcells : ∀ (j : Nat) x, xs[j]? = some x → w.cell? ⟨bk, o + j, none⟩ = some (.string x)) (hbk : bk < w.heap.size) (hN : xs.length ≤ 140737488355328) (hcap : xs.length ≤ c) (hlen : (Lib.join (xs.map (·.data.toList)) sep.data.toList).length ≤ 140737488355328) :
    Calls Tryd.prog 26 #[.slice (some ⟨bk, o, none⟩) xs.length c, .string sep] w fun e w' => e = .returned (.string ⟨(Lib.join (xs.map (·.data.toList)) sep.data.toList).toArray⟩) ∧ Below w.heap.size w w' := Any.strings_Join Tryd.lays156 Tryd.Builder_Extra_156 bk o c xs sep w hcells hbk hN hcap hlen
def Tryd.lays103_ren : Go.Shelf.Ren := ⟨fun | 103 => 20 | 210 => 41 | 206 => 74 | n => n, fun | 9 => 9 | 4 => 4 | 24 => 49 | 3 => 3 | n => n, fun | n => n⟩
theorem Tryd.lays103 : Go.Proofs.Lays.n103 Tryd.prog Tryd.lays103_ren := {
  mixed := by kernel_rfl
  f103 := Tryd.func20.trans (congrArg some (by kernel_rfl))
  f206 := Tryd.func74.trans (congrArg some (by kernel_rfl))
  f210 := Tryd.func41.trans (congrArg some (by kernel_rfl))
  t3 := Tryd.underlying3
  a3 := Tryd.isAgg3
  z3 := Tryd.sizeOf3
  v3 := Tryd.zeroValue3
  t4 := Tryd.underlying4
  a4 := Tryd.isAgg4
  z4 := Tryd.sizeOf4
  v4 := Tryd.zeroValue4
  t9 := Tryd.underlying9
  a9 := Tryd.isAgg9
  z9 := Tryd.sizeOf9
  v9 := Tryd.zeroValue9
  t24 := Tryd.underlying49
  a24 := Tryd.isAgg49
  z24 := Tryd.sizeOf49
  v24 := Tryd.zeroValue49 }
open Go.RowKit in
/-- strings.CutPrefix: "CutPrefix returns s without the provided leading prefix string and reports whether it found the prefix. If s doesn't start with prefix, CutPrefix returns s, false. If prefix is the empty string, CutPrefix returns s, true.": IT RETURNS '(Lib.trimPrefix s p, Lib.hasPrefix s p)'; the world is as it was. (LAID: no walk: one application.) -/
theorem Tryd.strings_CutPrefix (s p : ByteArray) (w : World) :
    Calls Tryd.prog 20 #[.string s, .string p] w fun e w' => e = .returned (.tuple #[.string ⟨(Lib.trimPrefix s.data.toList p.data.toList).toArray⟩, .bool (Lib.hasPrefix s.data.toList p.data.toList)]) ∧ w' = w := Any.strings_CutPrefix Tryd.lays103 s p w
end Go.Proofs
end
section
set_option linter.unusedVariables false
set_option linter.unusedSimpArgs false
set_option maxRecDepth 10000
set_option maxHeartbeats 1000000
namespace Go.Proofs.P4
open Go.Ex Go.RowKit
theorem CutPrefix_ok (s p : List UInt8) : OkF Tryd.prog 20 [.str s, .str p] (.tup [.str (if p <+: s then s.drop p.length else s), .bool (decide (p <+: s))], []) := by
  rw [← trim_pre, ← pre_iff]
  refine OkF.lib fun φ S w vs hG hv => ?_
  obtain ⟨x, y, rfl, hx, hy⟩ := reps2 hv
  have := rep_str hx
  subst this
  have := rep_str hy
  subst this
  refine (Tryd.strings_CutPrefix ⟨s.toArray⟩ ⟨p.toArray⟩ w).mono fun e w' he => ?_
  obtain ⟨rfl, rfl⟩ := he
  refine ⟨_, rfl, Below.refl _ _, .tup _ _ rfl fun i c v hc hv => ?_⟩
  match i with
  | 0 => simp at hc hv; subst hc hv; exact rep_str_mk _
  | 1 => simp at hc hv; subst hc hv; exact .bool _
  | i + 2 => simp at hc
theorem ro_inv {φ : Nat → Nat × Nat} {h : Hp} {S : Nat → Prop} {w : World} {n : Nat} {cs : List V} {x : Value} (hc : cs ≠ []) (r : Rep φ h S w (.ro n cs) x) :
    ∃ a c vs, x = .slice (some a) n c ∧ n ≤ c ∧ a.spot = none ∧ S a.block ∧ At w a.block a.off cs.length vs ∧ ∀ (i : Nat) y v, cs[i]? = some y → vs[i]? = some v → Rep φ h S w y v := by
  cases r with
  | roN => exact absurd rfl hc
  | ro _ _ a c vs h1 h2 h3 h4 =>
    obtain ⟨p, q, r⟩ := h3 hc
    exact ⟨a, c, vs, rfl, h1, p, q, r, h4⟩
theorem Join_ok {xs : List (List UInt8)} (hne : xs ≠ []) (sep : List UInt8) (hl : xs.length ≤ 1000000) (hlen : (Lib.join xs sep).length ≤ 140737488355328) : OkF Tryd.prog 26 [rS xs, .str sep] (.str (Lib.join xs sep), []) := by
  refine OkF.lib fun φ S w vs hG hv => ?_
  obtain ⟨x, y, rfl, hx, hy⟩ := reps2 hv
  have := rep_str hy
  subst this
  have hfl : (fl Cd.str xs).length = xs.length := by rw [fl_str, List.length_map]
  have hcs : fl Cd.str xs ≠ [] := fun e => hne (by
    have := congrArg List.length e
    rw [hfl] at this
    exact List.length_eq_zero_iff.1 this)
  obtain ⟨a, c, vs, rfl, hnc, h1, h2, ⟨arr, el, fz, g1, g2, g3, g4⟩, hel⟩ := ro_inv hcs hx
  obtain ⟨bk, o, sp⟩ := a
  simp only at h1 h2 g1 g2 g3 g4
  subst h1
  have hm1 : (xs.map fun l => (⟨l.toArray⟩ : ByteArray)).length = xs.length := List.length_map ..
  have hm2 : (xs.map fun l => (⟨l.toArray⟩ : ByteArray)).map (·.data.toList) = xs := by
    rw [List.map_map]
    exact List.map_id'' (fun _ => rfl) xs
  have hcell : ∀ j y, (xs.map fun l => (⟨l.toArray⟩ : ByteArray))[j]? = some y → w.cell? ⟨bk, o + j, none⟩ = some (.string y) := fun j y hj => by
    rw [List.getElem?_map, Option.map_eq_some_iff] at hj
    obtain ⟨l, hl1, rfl⟩ := hj
    have hlt := (List.getElem?_eq_some_iff.1 hl1).1
    rw [hfl] at g2
    have hsz : o + j < arr.size := by omega
    have hv2 : vs[j]? = some arr[o + j] := by
      rw [g3, Array.getElem?_extract, hfl]
      rw [if_pos (by omega), Array.getElem?_eq_getElem hsz]
    have hr := hel j (.str l) _ (by rw [fl_str, List.getElem?_map, hl1]; rfl) hv2
    rw [cell_at g1, Array.getElem?_eq_getElem hsz, rep_str hr]
  have hbk : bk < w.heap.size := (Array.getElem?_eq_some_iff.1 g1).1
  generalize hL : (xs.map fun l => (⟨l.toArray⟩ : ByteArray)) = L at *
  have hsep : (⟨sep.toArray⟩ : ByteArray).data.toList = sep := rfl
  have hj := Tryd.strings_Join bk o c L ⟨sep.toArray⟩ w hcell hbk (by omega) (by omega) (by rw [hm2, hsep]; exact hlen)
  rw [hm1, hm2, hsep] at hj
  refine hj.mono fun e w' he => ?_
  obtain ⟨rfl, hb⟩ := he
  exact ⟨_, rfl, hb, rep_str_mk _⟩
end Go.Proofs.P4
end
section
set_option linter.unusedVariables false
set_option linter.unusedSimpArgs false
set_option maxRecDepth 10000
set_option maxHeartbeats 8000000
namespace Go.Proofs.P4
open Go.Ex
theorem shown_ok (s : List UInt8) : OkF Tryd.prog 25 [.str s] (.str (dsh s), []) := by
  refine OkF.W0 hm h25 (of_decide_eq_true rfl) ?_
  unfold c25
  by_cases h0 : s = []
  · subst h0
    simp -dsimp [dsh]
  · simp -dsimp [h0, dsh]
theorem dash_ok (s : List UInt8) : OkF Tryd.prog 31 [.str s] (.str (dsh s), []) := by
  refine OkF.W0 hm h31 (of_decide_eq_true rfl) ?_
  unfold c31
  by_cases h0 : s = []
  · subst h0
    simp -dsimp [dsh]
  · simp -dsimp [h0, dsh]
theorem readS_ok (s : List UInt8) : OkF Tryd.prog 59 [.str s] (.str (rdh s), []) := by
  refine OkF.W0 hm h59 (of_decide_eq_true rfl) ?_
  unfold c59
  by_cases h0 : s = [45]
  · subst h0
    simp -dsimp [rdh]
  · simp -dsimp [h0, rdh]
theorem word_ok (s : List UInt8) (hs : s.length < 2 ^ 62) : OkF Tryd.prog 21 [.str s] (.bool (wordB s), []) := by
  refine OkF.W0 hm h21 (of_decide_eq_true rfl) ?_
  unfold c21
  simp -dsimp
  refine for_lt s.length (fun k s' => s'.t 0 = .str s ∧ Upto wdC s k) rfl hs (by simp -dsimp [Upto.zero]) (by simp) (by simp) (fun k s' hk hI hi hn => ?_) (fun s' hI hi hn => ?_)
  · obtain ⟨i1, i3⟩ := hI
    have hg : s[k]? = some s[k] := List.getElem?_eq_getElem hk
    generalize s[k] = c at hg
    have bad : wdC c = false → wordB s = false := fun h => by unfold wordB; rw [all_false hg h]; rfl
    unfold k21_0
    simp -dsimp [i1, hi, hn, hg]
    repeat' (first
      | (refine condK_of ?_ ?_ <;> intro q <;> simp -dsimp [q, i1, hi, hn, hg])
      | (refine wantF_of ?_ ?_ <;> intro q <;> simp -dsimp [q, i1, hi, hn, hg]))
    all_goals
      simp only [decide_eq_true_eq, decide_eq_false_iff_not] at *
      first
      | exact bad (by (unfold wdC; simp; omega))
      | exact i3.succ hg (by (unfold wdC; simp; omega))
  · obtain ⟨i1, i3⟩ := hI
    simp -dsimp [i1, wordB, i3.all]
/-- Bytes from a least one to 126. -/
def rwC (m : Nat) (c : UInt8) : Bool := decide (m ≤ c.toNat) && decide (c.toNat ≤ 126)
def rowB' (m : Nat) (s : List UInt8) : Bool := s.all (rwC m) && !decide (s = [])
theorem isRow_any (s : List UInt8) (m : Nat) (hs : s.length < 2 ^ 62) : OkF Tryd.prog 66 [.str s, .int .u8 m] (.bool (rowB' m s), []) := by
  have e62 := Go.Ex.e62
  refine OkF.W0 hm h66 (of_decide_eq_true rfl) ?_
  unfold c66
  simp -dsimp
  refine loop_to 5 s.length (fun k t => t.t 5 = .int .i64 k ∧ t.t 0 = .str s ∧ t.t 1 = .int .u8 m ∧ Upto (rwC m) s k) (fun k t h => h.1) ⟨by simp -dsimp, by simp -dsimp, by simp -dsimp, Upto.zero _ _⟩ (fun k t hk hI => ?_)
  obtain ⟨i3, i0, i1, iu⟩ := hI
  by_cases hlt : k < s.length
  · have hlt' : (k : Int) < (s.length : Int) := by omega
    have hg : s[k]? = some s[k] := List.getElem?_eq_getElem hlt
    have hw : IntKind.i64.wrap ((k : Int) + 1) = (k : Int) + 1 := IntWalk.i64_in _ (by omega)
    generalize s[k] = c at hg
    have bad : rwC m c = false → rowB' m s = false := fun h => by unfold rowB'; rw [all_false hg h]; rfl
    unfold l66_0
    simp -dsimp [i3, i0, i1, hlt', hg, hw]
    repeat' (first
      | (refine condK_of ?_ ?_ <;> intro q <;> simp -dsimp [q, i0, i1, i3, hw, hg])
      | (refine wantF_of ?_ ?_ <;> intro q <;> simp -dsimp [q, i0, i1, i3, hw, hg]))
    all_goals
      simp only [decide_eq_true_eq, decide_eq_false_iff_not] at *
      first
      | exact bad (by (unfold rwC; simp; omega))
      | exact ⟨by omega, iu.succ hg (by (unfold rwC; simp; omega))⟩
  · have hkl : k = s.length := by omega
    subst hkl
    unfold l66_0
    simp -dsimp [i3, i0, rowB', iu.all]
theorem isRow33 (s : List UInt8) (hs : s.length < 2 ^ 62) : OkF Tryd.prog 66 [.str s, .int .u8 33] (.bool (wordB s), []) := isRow_any s 33 hs
theorem isRow32 (s : List UInt8) (hs : s.length < 2 ^ 62) : OkF Tryd.prog 66 [.str s, .int .u8 32] (.bool (plain s), []) := isRow_any s 32 hs
end Go.Proofs.P4
end
section
set_option linter.unusedVariables false
set_option linter.unusedSimpArgs false
set_option maxRecDepth 10000
set_option maxHeartbeats 8000000
namespace Go.Proofs.P4
open Go.Ex
section
variable {h : Hp} {kk : IntKind} {K : V → List Nat → Prop} {l : List (List UInt8)} {a : List UInt8}
theorem s_ia0 (e : l[0]? = some a) : iaddrK h (.ro l.length (fl Cd.str l)) (.int kk 0) 1 K ⟨⟩ = K (.rp (fl Cd.str l) 0) [] := iaddr_fl (k := 0) rfl (by decide) e
theorem s_ia1 (e : l[1]? = some a) : iaddrK h (.ro l.length (fl Cd.str l)) (.int kk 1) 1 K ⟨⟩ = K (.rp (fl Cd.str l) 1) [] := iaddr_fl (k := 1) rfl (by decide) e
theorem s_ia2 (e : l[2]? = some a) : iaddrK h (.ro l.length (fl Cd.str l)) (.int kk 2) 1 K ⟨⟩ = K (.rp (fl Cd.str l) 2) [] := iaddr_fl (k := 2) rfl (by decide) e
theorem s_ia3 (e : l[3]? = some a) : iaddrK h (.ro l.length (fl Cd.str l)) (.int kk 3) 1 K ⟨⟩ = K (.rp (fl Cd.str l) 3) [] := iaddr_fl (k := 3) rfl (by decide) e
theorem s_ia4 (e : l[4]? = some a) : iaddrK h (.ro l.length (fl Cd.str l)) (.int kk 4) 1 K ⟨⟩ = K (.rp (fl Cd.str l) 4) [] := iaddr_fl (k := 4) rfl (by decide) e
theorem s_ld {k : Nat} (e : l[k]? = some a) : ldA h (.rp (fl Cd.str l) k) none = some (.str a) := by
  have := ld_fl0 (h := h) (d := Cd.str) (n := 1) rfl (by decide) e
  simp only [Nat.mul_one] at this
  exact this
end
theorem jn5_len (w : W5) : w.1.length ≤ (jn5 w).length ∧ w.2.1.length ≤ (jn5 w).length ∧ w.2.2.1.length ≤ (jn5 w).length ∧ w.2.2.2.1.length ≤ (jn5 w).length ∧ w.2.2.2.2.length ≤ (jn5 w).length := by
  unfold jn5
  simp only [List.length_append, List.length_cons]
  omega
theorem pre33 {s : List UInt8} : ([33] <+: s) ↔ s[0]? = some 33 := by
  cases s with
  | nil => simp
  | cons a r =>
    simp only [List.getElem?_cons_zero, Option.some.injEq, List.cons_prefix_cons, List.nil_prefix, and_true]
    exact eq_comm
theorem entryIn_ok (line : List UInt8) (hl : line.length < 4000000000) : OkF Tryd.prog 29 [.str line] (.tup [.agg (entV (enIn line).1), .bool (enIn line).2], []) := by
  refine OkF.G0 hm h29 (of_decide_eq_true rfl) ?_
  unfold c29
  have e62 := Go.Ex.e62
  have hs := SplitN_ok line (by omega)
  rcases spN line with ⟨w, hw, e⟩ | ⟨hw, e⟩
  rotate_left
  · have hE : enIn line = (z6, false) := by unfold enIn; rw [hw]
    generalize Lib.splitN line [32] 5 = ws at *
    have e' : ((ws.length : Int) < 5) := by omega
    simp -dsimp
    refine call_pure hs (by simp) (by simp [V.pure, V.pureL, fl_pure]) ?_
    simp -dsimp [e', hE, z6, entV, fillS]
  have hE : enIn line = wE w := by unfold enIn; rw [hw]
  have hlen := jn5_len w
  rw [← w5_eq hw] at hlen
  obtain ⟨a, b, c, d, r⟩ := w
  simp only at hlen e
  obtain ⟨la, lb, lc, ld, lr⟩ := hlen
  have g0 : (Lib.splitN line [32] 5)[0]? = some a := by rw [e]; rfl
  have g1 : (Lib.splitN line [32] 5)[1]? = some b := by rw [e]; rfl
  have g2 : (Lib.splitN line [32] 5)[2]? = some c := by rw [e]; rfl
  have g3 : (Lib.splitN line [32] 5)[3]? = some d := by rw [e]; rfl
  have g4 : (Lib.splitN line [32] 5)[4]? = some r := by rw [e]; rfl
  have hn : (Lib.splitN line [32] 5).length = 5 := by rw [e]; rfl
  generalize Lib.splitN line [32] 5 = ws at *
  have hn' : (ws.length : Int) = 5 := by omega
  have d1 := Digits_ok a 13 (by decide)
  have d2 := Digits_ok b 13 (by decide)
  have wc := word_ok c (by omega)
  have wd := word_ok d (by omega)
  have pr := plain_ok r (by omega)
  have rc := readS_ok c
  have rd := readS_ok d
  have cp := CutPrefix_ok d [33]
  have hwE : wE (a, b, c, d, r) = if (wordB c && wordB d && plain r) = false then (z6, false) else if d = [33] then (z6, false) else
    (((digV a 13).1, (digV b 13).1, r, rdh c, if d[0]? = some 33 then d.drop 1 else rdh d, decide (d[0]? = some 33)), (digV a 13).2 && (digV b 13).2) := rfl
  rw [hE, hwE]
  clear hE hwE hw e
  generalize digV a 13 = r1 at *
  generalize digV b 13 = r2 at *
  obtain ⟨m1, k1⟩ := r1
  obtain ⟨m2, k2⟩ := r2
  simp only at d1 d2
  simp -dsimp
  refine call_pure hs (by simp) (by simp [V.pure, V.pureL, fl_pure]) ?_
  simp -dsimp [hn', s_ia2 g2, s_ld g2]
  refine call_pure wc (by simp) rfl ?_
  cases hc : wordB c with
  | false => simp -dsimp [z6, entV, fillS]
  | true =>
  simp -dsimp [s_ia3 g3, s_ld g3]
  refine call_pure wd (by simp) rfl ?_
  cases hd : wordB d with
  | false => simp -dsimp [z6, entV, fillS]
  | true =>
  simp -dsimp [s_ia4 g4, s_ld g4]
  refine call_pure pr (by simp) rfl ?_
  cases hr : plain r with
  | false => simp -dsimp [z6, entV, fillS]
  | true =>
  simp -dsimp [s_ia0 g0, s_ld g0]
  refine call_pure d1 (by simp) (by simp [V.pure, V.pureL]) ?_
  simp -dsimp [s_ia1 g1, s_ld g1]
  refine call_pure d2 (by simp) (by simp [V.pure, V.pureL]) ?_
  simp -dsimp [s_ia2 g2, s_ld g2]
  refine call_pure rc (by simp) rfl ?_
  simp -dsimp [s_ia4 g4, s_ld g4, fillS, s_ia3 g3, s_ld g3]
  refine call_pure cp (by simp) (by simp [V.pure, V.pureL]) ?_
  by_cases hp : [33] <+: d
  · have h33 := pre33.1 hp
    obtain ⟨t, rfl⟩ := hp
    by_cases ht : t = []
    · subst ht
      simp -dsimp [z6, entV, fillS]
    · simp -dsimp [ht, entV]
      cases k1 <;> simp -dsimp [ht, entV]
  · have h33 : ¬ d[0]? = some 33 := fun q => hp (pre33.2 q)
    have hd33 : ¬ d = [33] := fun q => h33 (by rw [q]; rfl)
    simp -dsimp [hp, h33, hd33, s_ia3 g3, s_ld g3]
    refine call_pure rd (by simp) rfl ?_
    simp -dsimp [entV]
    cases k1 <;> simp -dsimp [entV] <;> simp [hd33, h33]
end Go.Proofs.P4
end
section
set_option linter.unusedVariables false
set_option linter.unusedSimpArgs false
set_option maxRecDepth 10000
set_option maxHeartbeats 8000000
namespace Go.Proofs.P4
open Go.Ex
abbrev rE (l : List Entry) : V := .ro l.length (fl entCd l)
/-- No part of an entry is longer than the line. -/
theorem enIn_ok {line : List UInt8} (hl : line.length < 4000000000) : entOk (enIn line).1 := by
  have e62 := Go.Ex.e62
  have z : entOk z6 := ⟨by decide, by decide, by decide⟩
  unfold enIn
  cases hw : w5 line with
  | none => exact z
  | some w =>
    have hlen := jn5_len w
    rw [← w5_eq hw] at hlen
    obtain ⟨l1, l2, l3, l4, l5⟩ := hlen
    have hr : ∀ s : List UInt8, (rdh s).length ≤ s.length := fun s => by
      unfold rdh
      split <;> simp
    show entOk (wE w).1
    unfold wE
    split
    · exact z
    split
    · exact z
    refine ⟨by simp only; omega, by simp only; have := hr w.2.2.1; omega, ?_⟩
    simp only
    split
    · rw [List.length_drop]; omega
    · have := hr w.2.2.2.1; omega
theorem acc_st {α : Type} {d : Cd α} {h : Hp} {nx : Nat} {v : V} {l : List α} (a : Acc d h nx v l) : v.cells = [v] ∧ v.storable = true := by
  rcases a.isV with rfl | ⟨_, _, _, _, rfl⟩ <;> exact ⟨rfl, rfl⟩
structure NInv (k : Nat) (ms : List Entry) (h : Hp) (nx : Nat) : Prop where
  lk : ms.length ≤ k
  ok : ∀ x ∈ ms, entOk x
  nx1 : 1 ≤ nx
  ex : ∃ v, h 0 = some ⟨0, 0, [v], none⟩ ∧ Acc entCd h nx v ms ∧ ∀ j, ownOf v = some j → 1 ≤ j
theorem readN1_body : hasBody Tryd.prog 28 = true := by kernel_rfl
theorem readN1_ex {k : Nat} {line : List UInt8} {ms : List Entry} {h : Hp} {nx : Nat} (hl : line.length < 4000000000) (hk : k < 4000000000) (hI : NInv k ms h nx) :
    SEx Tryd.prog 28 ([.str line] ++ [.pt 0 0 0]) h nx (fun v h' nx' => v = .bool (stN line ms).2 ∧ NInv (k + 1) (stN line ms).1 h' nx') := by
  obtain ⟨lk, ok, hnx, v, hb, ac, ow⟩ := hI
  refine SEx.of hm h28 (of_decide_eq_true rfl) ?_
  unfold c28
  have e62 := Go.Ex.e62
  have hs := entryIn_ok line hl
  have hxo := enIn_ok hl
  unfold stN
  generalize enIn line = r at *
  obtain ⟨x, b⟩ := r
  simp only at hs hxo
  have hpx : V.pureL (entV x) = true := rfl
  have sl : (entV x).length = 6 := rfl
  have tk6 : List.take 6 (entV x) = entV x := rfl
  have hput : putL [V.int IntKind.i64 0, V.int IntKind.i64 0, V.str [], V.str [], V.str [], V.bool false] 0 (entV x) = entV x := rfl
  have n0 : ¬ nx = 0 := by omega
  have n0' : ¬ 0 = nx := by omega
  have n1 : ¬ nx + 1 = 0 := by omega
  simp -dsimp
  refine call_pure hs (by simp) (by simp [V.pure, V.pureL, hpx]) ?_
  simp -dsimp [fillS, sl, hput, tk6, hb, n0, n0', fillA]
  refine push_accW (d := entCd) (x := x) (ac.keep (nx' := nx + 1) (by omega) fun j hj ho => ?_) rfl rfl (by omega) (by omega) fun v1 h1 nx1 i b1 b2 b3 b4 b5 b6 => ?_
  · have : ¬ j = nx := by omega
    simp [upd, this]
  have hb1 : h1 0 = some ⟨0, 0, [v], none⟩ := by rw [b3 0 (by omega) (fun e => by have := ow 0 e; omega)]; simp [upd, n0', hb]
  obtain ⟨s1, s2⟩ := acc_st b1
  have o1 : ∀ j, ownOf v1 = some j → 1 ≤ j := fun j hj => by
    rcases b4 j hj with e | e
    · exact ow j e
    · omega
  have fin : ∀ g : Hp, (∀ j, 1 ≤ j → g j = h1 j) → g 0 = some ⟨0, 0, [v1], none⟩ → NInv (k + 1) (ms ++ [x]) g nx1 := fun g g1 g0 =>
    ⟨by simp; omega, fun y hy => by
      rcases List.mem_append.1 hy with q | q
      · exact ok y q
      · rw [List.mem_singleton.1 q]; exact hxo, by omega, v1, g0, b1.keep (Nat.le_refl _) fun j hj ho => g1 j (o1 j ho), o1⟩
  simp -dsimp [-V.cells, -V.storable, hb1, s1, s2]
  exact fin _ (fun j hj => by simp only [upd]; rw [if_neg (by omega)]) (by simp -dsimp)
abbrev rdN (text : List UInt8) : List Entry × Int × Int := readN entsE text
theorem ReadN_ok (text : List UInt8) : OkF Tryd.prog 11 [.str text] (.tup [rE (rdN text).1, .int .i64 (rdN text).2.1, .int .i64 (rdN text).2.2], []) := by
  refine OkF.W0 hm h11 (of_decide_eq_true rfl) ?_
  unfold c11
  by_cases c0 : 300000 < text.length
  · have c0' : (300000 : Int) < (text.length : Int) := by omega
    have e : rdN text = ([], 0, 2) := by unfold rdN readN; rw [if_pos c0]
    simp -dsimp [c0', e]
  have c0' : ¬ (300000 : Int) < (text.length : Int) := by omega
  have e : rdN text = if 0 < (rdG stN (text.length + 1) text 1 []).2 then ([], (rdG stN (text.length + 1) text 1 []).2, 10) else
    if entsE (rdG stN (text.length + 1) text 1 []).1 ≠ 0 then ([], 0, entsE (rdG stN (text.length + 1) text 1 []).1) else ((rdG stN (text.length + 1) text 1 []).1, 0, 0) := by unfold rdN readN; rw [if_neg c0]
  simp -dsimp [c0']
  refine shr_ex (lines_ex (st := stN) (Inv := NInv) (b0 := ([] : List Entry)) (text := text) (by omega) readN1_body (fun k line b h nx h1 h2 hI => readN1_ex (by omega) (by omega) hI) ⟨by simp, by simp, by simp, .ns, by simp, Acc.nil _ _, fun j hj => (by cases hj)⟩) ?_
  generalize rdG stN (text.length + 1) text 1 [] = r at *
  obtain ⟨ms, n⟩ := r
  rintro v h' nx' ⟨rfl, k, lk, ok, hnx, v, hb, ac, ow⟩
  simp only at *
  by_cases c1 : 0 < n
  · rw [if_pos c1] at e
    simp -dsimp [c1, e]
  rw [if_neg c1] at e
  have hro := ac.ro (n := 7)
  simp -dsimp [c1, hb, hro]
  refine call_int (CheckEntries_ok ms ok) ?_
  simp -dsimp
  by_cases c2 : entsE ms = 0
  · rw [if_neg (by simpa using c2)] at e
    simp -dsimp [c2, hb, e]
    simp [ac.ex1]
  · rw [if_pos c2] at e
    simp -dsimp [c2, e]
end Go.Proofs.P4
end
section
set_option linter.unusedVariables false
set_option linter.unusedSimpArgs false
set_option maxRecDepth 10000
set_option maxHeartbeats 8000000
namespace Go.Proofs.P4
open Go.Ex
section
variable {h : Hp} {k : Nat} {kk : IntKind} {K : V → List Nat → Prop} {l : List (List UInt8)} {a : List UInt8}
theorem st_ia (e : l[k]? = some a) : iaddrK h (rS l) (.int kk k) 1 K ⟨⟩ = K (.rp (fl Cd.str l) k) [] := by
  have := iaddr_fl (d := Cd.str) (n := 1) (kk := kk) (h := h) (K := K) rfl (by decide) e
  rwa [Nat.mul_one] at this
end
def textJ (ls : List (List UInt8)) : List UInt8 × Int := if 300000 < (txL ls).length then ([], 2) else (txL ls, 0)
theorem textJ_ok (ls : List (List UInt8)) (hl : ls.length ≤ 100000) (ht : (txL ls).length < 100000000) : OkF Tryd.prog 17 [rS ls] (.tup [.str (textJ ls).1, .int .i64 (textJ ls).2], []) := by
  have e62 := Go.Ex.e62
  refine OkF.W0 hm h17 (of_decide_eq_true rfl) ?_
  unfold c17
  simp -dsimp
  refine for_lt ls.length (fun k t => t.t 7 = rS ls ∧ t.t 0 = rS ls ∧ t.t 4 = .int .i64 (txL (ls.take k)).length) rfl (by omega) (by simp -dsimp [txL]) (by simp -dsimp) (by simp -dsimp) (fun k t hk hI hi hn => ?_) (fun t hI hi hn => ?_)
  · obtain ⟨i7, i0, i4⟩ := hI
    have hg : ls[k]? = some ls[k] := List.getElem?_eq_getElem hk
    generalize ls[k] = a at hg
    have h1 := txL_take hg
    have h2 := txL_le (ls := ls) (k + 1)
    have w1 : IntKind.i64.wrap ((a.length : Int) + 1) = (a.length : Int) + 1 := IntWalk.i64_in _ (by omega)
    have w2 : IntKind.i64.wrap (((txL (ls.take k)).length : Int) + ((a.length : Int) + 1)) = ((txL (ls.take (k + 1))).length : Int) := by rw [IntWalk.i64_in _ (by omega)]; omega
    generalize (txL (ls.take k)).length = p at *
    generalize (txL (ls.take (k + 1))).length = q at *
    unfold k17_0
    simp -dsimp [i7, i0, i4, hi, hn, st_ia hg, s_ld hg, w1, w2]
  · obtain ⟨i7, i0, i4⟩ := hI
    rw [List.take_length] at i4
    by_cases c : 300000 < (txL ls).length
    · have c' : (300000 : Int) < ((txL ls).length : Int) := by omega
      have e : textJ ls = ([], 2) := by unfold textJ; rw [if_pos c]
      simp -dsimp [i4, c', e]
    have c' : ¬ (300000 : Int) < ((txL ls).length : Int) := by omega
    have e : textJ ls = (txL ls, 0) := by unfold textJ; rw [if_neg c]
    by_cases hne : ls = []
    · subst hne
      simp -dsimp [i4, c', e, i0, txL]
    · have hp : 0 < ls.length := List.length_pos_iff.2 hne
      have hp' : ¬ (ls.length : Int) = 0 := by omega
      have hj := join_tx hne
      have hjl : (Lib.join ls [10]).length + 1 = (txL ls).length := by rw [← hj]; simp
      have u1 : ¬ (4611686018427387904 : Int) < ((Lib.join ls [10]).length : Int) + 1 := by omega
      simp -dsimp [i4, c', e, i0, hp', hne]
      refine call_pure (Join_ok hne [10] (by omega) (by omega)) (by simp) rfl ?_
      simp -dsimp [u1, hj]
      simp [e]
abbrev tsE (l : List Entry) : List UInt8 × Int := textN entsE l
structure NTI (l : List Entry) (k : Nat) (t : St) : Prop where
  i14 : t.t 14 = rE l
  ac : Acc Cd.str t.h t.nx (t.t 5) ((l.take k).map lnE)
theorem etx_len {l : List Entry} (hl : ∀ x ∈ l, entE x = 0) : (txL (l.map lnE)).length ≤ 301 * l.length := by
  induction l with
  | nil => simp [txL]
  | cons x r ih =>
    have h1 := lnE_len (hl x (by simp))
    have h2 := ih fun y hy => hl y (List.mem_cons_of_mem _ hy)
    rw [List.map_cons, txL_cons]
    simp only [List.length_append, List.length_cons]
    omega
theorem ents_each {l : List Entry} (h : entsE l = 0) : l.length ≤ 1000 ∧ ∀ x ∈ l, entE x = 0 := by
  unfold entsE at h
  split at h
  · cases h
  split at h
  · rename_i q; exact absurd h q
  rename_i h0 q1
  have q1' : fe (entsE1 l) l.length = 0 := by simpa using q1
  refine ⟨by omega, fun x hx => ?_⟩
  obtain ⟨k, hk⟩ := List.getElem?_of_mem hx
  have := fe_zero q1' k (List.getElem?_eq_some_iff.1 hk).1
  unfold entsE1 at this
  rw [hk] at this
  simp only at this
  split at this
  · assumption
  · rename_i q; simpa using q
theorem TextN_ok (l : List Entry) (hok : ∀ x ∈ l, entOk x) : OkF Tryd.prog 10 [rE l] (.tup [.str (tsE l).1, .int .i64 (tsE l).2], []) := by
  refine OkF.W0 hm h10 (of_decide_eq_true rfl) ?_
  unfold c10
  have e62 := Go.Ex.e62
  have e47 := Go.Ex.e47
  simp -dsimp
  refine call_int (CheckEntries_ok l hok) ?_
  simp -dsimp
  by_cases hb : entsE l = 0
  rotate_left
  · have e : tsE l = ([], entsE l) := by unfold tsE textN; rw [if_pos hb]
    simp -dsimp [hb, e]
  obtain ⟨hmost, heach⟩ := ents_each hb
  have e : tsE l = textJ (l.map lnE) := by unfold tsE textN textJ; rw [if_neg (by simpa using hb), ET_lines]
  have hlen := etx_len heach
  simp -dsimp [hb]
  refine for_lt l.length (NTI l) rfl (by omega) ⟨by simp -dsimp, by simp -dsimp; exact Acc.nil _ _⟩ (by simp -dsimp) (by simp -dsimp) (fun k t hk hI hi hn => ?_) (fun t hI hi hn => ?_)
  · obtain ⟨i14, ac⟩ := hI
    have hg : l[k]? = some l[k] := List.getElem?_eq_getElem hk
    have hx := heach _ (List.getElem_mem hk)
    have hS : (l.take (k + 1)).map lnE = (l.take k).map lnE ++ [lnE l[k]] := by rw [List.take_succ_eq_append_getElem hk, List.map_append]; rfl
    generalize l[k] = x at *
    have hln := lnE_len hx
    have hj := Join_ok (xs := [Lib.itoa x.1, Lib.itoa x.2.1, dsh x.2.2.2.1, cnd x, x.2.2.1]) (by simp) [32] (by simp) (by rw [← lnE_join]; omega)
    rw [← lnE_join] at hj
    have sl : (entV x).length = 6 := rfl
    have tk6 : List.take 6 (entV x) = entV x := rfl
    have hput : putL [V.int IntKind.i64 0, V.int IntKind.i64 0, V.str [], V.str [], V.str [], V.bool false] 0 (entV x) = entV x := rfl
    have g0 : ∀ h, (entV x)[0]'h = .int .i64 x.1 := fun _ => rfl
    have g1 : ∀ h, (entV x)[1]'h = .int .i64 x.2.1 := fun _ => rfl
    have g2 : ∀ h, (entV x)[2]'h = .str x.2.2.1 := fun _ => rfl
    have g3 : ∀ h, (entV x)[3]'h = .str x.2.2.2.1 := fun _ => rfl
    have g4 : ∀ h, (entV x)[4]'h = .str x.2.2.2.2.1 := fun _ => rfl
    have g5 : ∀ h, (entV x)[5]'h = .bool x.2.2.2.2.2 := fun _ => rfl
    have hbd : (1 ≤ x.1 ∧ x.1 ≤ 1000000000000) ∧ 0 ≤ x.2.1 ∧ x.2.1 ≤ 1000000000000 := by
      unfold entE at hx
      split at hx
      · cases hx
      rename_i q
      simpa [inB] using q
    have ia := Itoa_ok x.1 (by omega) (by omega)
    have ib := Itoa_ok x.2.1 (by omega) (by omega)
    have hj' : OkF Tryd.prog 26 [.ro 5 [.str (Lib.itoa x.1), .str (Lib.itoa x.2.1), .str (dsh x.2.2.2.1), .str (cnd x), .str x.2.2.1], .str [32]] (.str (lnE x), []) := hj
    have hrow : ∀ (h : Hp) (i : Nat) (a b c d e : List UInt8), toRO (upd h i (some ⟨0, 1, [.str a, .str b, .str c, .str d, .str e], none⟩)) 8 (.sl i 0 0 5 (some 5)) = some (.ro 5 [.str a, .str b, .str c, .str d, .str e]) := fun h i a b c d e =>
      (Acc.mk (d := Cd.str) (h := upd h i (some ⟨0, 1, [.str a, .str b, .str c, .str d, .str e], none⟩)) (nx := i + 1) (id := i) (ver := 0) (cap := some 5) (l := [a, b, c, d, e]) (by omega) (by simp [upd]; rfl)).ro (n := 7)
    have hcl : (cnd x).length ≤ 300 := by
      rw [lnE_eq] at hln
      simp only [List.length_append, List.length_singleton] at hln
      omega
    have hle : ((l.take k).map lnE).length ≤ 1000 := by simp; omega
    clear hj hln
    generalize lnE x = LN at *
    unfold k10_0
    cases hnt : x.2.2.2.2.2
    case' true => have hcn : cnd x = [33] ++ x.2.2.2.2.1 := by unfold cnd; rw [if_pos hnt]; rfl
    case' false => have hcn : cnd x = dsh x.2.2.2.2.1 := by unfold cnd; rw [if_neg (by rw [hnt]; simp)]
    all_goals
      rw [hcn] at hj' hcl
      rw [hnt] at g5
      have u1 : ¬ (4611686018427387904 : Int) < (x.2.2.2.2.1.length : Int) + 1 := by
        first
        | (simp at hcl; omega)
        | (unfold dsh at hcl; split at hcl <;> simp_all <;> omega)
      have u2 : ¬ (4611686018427387904 : Int) < 1 + (x.2.2.2.2.1.length : Int) := by omega
      simp -dsimp [i14, hi, ent_ia hg, ent_ld hg, sl, tk6, hput, g4]
      refine call_pure (shown_ok _) (by simp) rfl ?_
      simp -dsimp [sl, g5, g4, g0, u1, u2]
      refine call_pure ia (by simp) rfl ?_
      simp -dsimp [sl, g1]
      refine call_pure ib (by simp) rfl ?_
      simp -dsimp [sl, g3]
      refine call_pure (shown_ok _) (by simp) rfl ?_
      simp -dsimp [sl, g2, fillA, hrow]
      refine call_one hj' (by simp [okRes, V.pure, V.pureL, roFree, roFreeL]) ?_
      simp -dsimp [shift, fillA]
      refine push_accW (d := Cd.str) (x := LN) (ac.keep (nx' := t.nx + 2) (by omega) fun j hj ho => ?_) rfl rfl (by omega) (by omega) fun v1 h1 nx1 i b1 b2 b3 b4 b5 b6 => ?_
      · have : ¬ j = t.nx := by omega
        have : ¬ j = t.nx + 1 := by omega
        simp [upd, *]
      simp -dsimp [hi, hn]
      refine ⟨by simp -dsimp [i14], ?_⟩
      simp -dsimp
      rw [← List.map_take, hS]
      exact b1
  · obtain ⟨i14, ac⟩ := hI
    rw [List.take_length] at ac
    have hro : toRO t.h 8 (t.t 5) = some (rS (l.map lnE)) := ac.ro (n := 7)
    have ht := textJ_ok (l.map lnE) (by simp; omega) (by omega)
    simp -dsimp [hro]
    refine call_one ht (by simp [okRes, V.pure, V.pureL, roFree, roFreeL]) ?_
    simp -dsimp [shift, shiftL]
    simp [e]
end Go.Proofs.P4
end
