/- The small commands of slices.Concat of outcomes; slices.Grow of outcomes, from nil: walked in the model itself; slices.Concat of outcomes; Runs without changes, in plain Lean; The law of runs that are cut; The law of a run that is cut. -/
import Derived.Test.YtaegjihmpgdfcaaB7
import Derived.WalkKit
import Derived.Lib.Walk
import Derived.Lib.SliceRun
import Derived.Lib.AppendZerosOnto
import Derived.Shelf.RegionOpenPlain
section
set_option linter.unusedVariables false
set_option linter.unusedSimpArgs false
namespace Go.Proofs.P6
open Go.Ex
/-- Grow shares. -/
def shG (f : Nat) : Bool := [98].contains f
def k45_0 : Cmd := (.block 1 (.seq (.reg false [⟨(some 13), none, (.iaddr (.t 9) (.t 11) 1), []⟩, ⟨(some 14), none, (.ld (.t 13) none), []⟩, ⟨(some 5), none, (.mov (.t 14)), []⟩]) (.seq (.reg false [⟨(some 15), none, (.mov (.t 3)), []⟩, ⟨(some 16), none, (.mov (.t 5)), []⟩, ⟨(some 17), none, (.len false (.t 16)), []⟩, ⟨(some 18), none, (.bin .add (.t 15) (.t 17)), []⟩, ⟨(some 3), none, (.mov (.t 18)), []⟩]) (.seq (.reg false [⟨(some 19), none, (.mov (.t 3)), []⟩, ⟨(some 20), none, (.bin .lss (.t 19) (.c (.int .i64 0))), []⟩]) (.cond (.t 20) (.reg false [⟨(some 21), none, .never, []⟩, ⟨none, none, .never, []⟩]) .skip)))))
abbrev l45_0 : Cmd := cnt 0 12 11 10 22 k45_0
def k45_1 : Cmd := (.block 3 (.seq (.reg false [⟨(some 29), none, (.iaddr (.t 25) (.t 27) 1), []⟩, ⟨(some 30), none, (.ld (.t 29) none), []⟩, ⟨(some 8), none, (.mov (.t 30)), []⟩]) (.reg false [⟨(some 31), none, (.mov (.t 6)), []⟩, ⟨(some 32), none, (.mov (.t 8)), []⟩, ⟨(some 33), none, (.app 3 24 (.t 31) (.t 32)), []⟩, ⟨(some 6), none, (.mov (.t 33)), []⟩])))
abbrev l45_1 : Cmd := cnt 2 28 27 26 34 k45_1
def c45 : Cmd := (.seq (.reg false [⟨(some 2), none, (.mov (.c .ns)), []⟩]) (.seq (.reg false [⟨(some 3), none, (.mov (.c (.int .i64 0))), []⟩]) (.seq (.seq (.reg false [⟨(some 9), none, (.mov (.t 0)), []⟩, ⟨(some 10), none, (.len false (.t 9)), []⟩, ⟨(some 11), none, (.mov (.c (.int .i64 0))), []⟩]) (.block 0 (.loop l45_0))) (.seq (.reg false [⟨(some 23), none, (.mov (.t 3)), []⟩, ⟨(some 24), none, (.shr 98 [(.c .ns), (.t 23)]), []⟩, ⟨(some 6), none, (.mov (.t 24)), []⟩]) (.seq (.seq (.reg false [⟨(some 25), none, (.mov (.t 0)), []⟩, ⟨(some 26), none, (.len false (.t 25)), []⟩, ⟨(some 27), none, (.mov (.c (.int .i64 0))), []⟩]) (.block 2 (.loop l45_1))) (.seq (.reg false [⟨(some 35), none, (.mov (.t 6)), []⟩, ⟨(some 2), none, (.mov (.t 35)), []⟩]) .ret))))))
theorem h45 : compF Try.prog shG 45 = some (c45, [2], 36) := by kernel_rfl
end Go.Proofs.P6
end
section
set_option linter.unusedVariables false
set_option linter.unusedSimpArgs false
namespace Go.Proofs.P6
open Go.Lib Go.RowKit Go.Ex
theorem ocInfo : ∃ i0 z, Try.prog.info? 66 = some i0 ∧ i0.zero = some z ∧ i0.size = 3 ∧ i0.bytes = 24 ∧ z.cells.size = 3 := by
  obtain ⟨i0, hi0⟩ := Option.isSome_iff_exists.1 (by kernel_rfl : (Try.prog.info? 66).isSome = true)
  have h1 : (Try.prog.info? 66).map (·.size) = some 3 := by kernel_rfl
  have h2 : (Try.prog.info? 66).map (·.bytes) = some 24 := by kernel_rfl
  have h3 : (Try.prog.info? 66).map (·.zero.isSome) = some true := by kernel_rfl
  have h4 : (Try.prog.info? 66).map (fun i => i.zero.map fun z => z.cells.size) = some (some 3) := by kernel_rfl
  rw [hi0] at h1 h2 h3 h4
  simp only [Option.map_some, Option.some.injEq] at h1 h2 h3 h4
  obtain ⟨z, hz⟩ := Option.isSome_iff_exists.1 h3
  rw [hz] at h4
  simp only [Option.map_some, Option.some.injEq] at h4
  exact ⟨i0, z, hi0, hz, h1, h2, h4⟩
set_option maxHeartbeats 4000000 in
set_option maxRecDepth 100000 in
theorem grow_nil (i0 : TypeInfo) (z : Value) (hi0 : Try.prog.info? 66 = some i0) (hz0 : i0.zero = some z) (hs : i0.size = 3) (hb : i0.bytes = 24) (n : Nat) (hn : 0 < n) (hbig : n ≤ 20000) (w : World) :
    Calls Try.prog 98 #[.slice none 0 0, .int .i64 n] w fun e w' => e = .returned (.slice (some ⟨w.heap.size, 0, none⟩) 0 (grownCap w n 0 66)) ∧
      w' = w.drew.alloc (.cells (#[] ++ Builtin.zeroCells z.cells n ++ Builtin.zeroCells z.cells (grownCap w n 0 66 - n)) 66) := by
  have mixed := hm
  have t0 := Try.underlying0; have a0 := Try.isAgg0; have z0 := Try.sizeOf0; have v0 := Try.zeroValue0; have u0 := run_underlying Try.underlying0
  have t3 := Try.underlying3; have a3 := Try.isAgg3; have z3 := Try.sizeOf3; have v3 := Try.zeroValue3; have u3 := run_underlying Try.underlying3
  have t4 := Try.underlying4; have a4 := Try.isAgg4; have z4 := Try.sizeOf4; have v4 := Try.zeroValue4; have u4 := run_underlying Try.underlying4
  have t9 := Try.underlying9; have a9 := Try.isAgg9; have z9 := Try.sizeOf9; have v9 := Try.zeroValue9; have u9 := run_underlying Try.underlying9
  have t20 := Try.underlying20; have a20 := Try.isAgg20; have z20 := Try.sizeOf20; have v20 := Try.zeroValue20; have u20 := run_underlying Try.underlying20
  have t22 := Try.underlying60; have a22 := Try.isAgg60; have z22 := Try.sizeOf60; have v22 := Try.zeroValue60; have u22 := run_underlying Try.underlying60
  have nt : Try.f98.ntmps = 27 := rfl
  have h1 : ¬ ((n : Int) < 0) := by omega
  have h3 : wrap64 (n : Int) = (n : Int) := by unfold wrap64; omega
  have h4 : (n : Int) > 0 := by omega
  have z25 : ∀ w, (Go.sizeOf 66).run Try.prog w = .ok i0.size w := fun w => by simp [Go.sizeOf, typeInfo, hi0]
  have hold : (Builtin.firstCells i0.size 0 (.slice none 0 0)).run Try.prog w.drew = .ok #[] w.drew := run_firstCells_none w.drew i0.size 0 0 0
  have hrz : ∀ ty, (Builtin.append_ #[60, 3] ty #[.slice none 0 0, .int .i64 (n : Int)]).run Try.prog w =
      .ok (.slice (some ⟨w.heap.size, 0, none⟩) n (grownCap w n 0 66)) (w.drew.alloc (.cells (#[] ++ Builtin.zeroCells z.cells n ++ Builtin.zeroCells z.cells (grownCap w n 0 66 - n)) 66)) := fun ty => by
    have h := Lib.run_append_grow_zeros w 60 3 ty 66 i0 z .i64 .i64 t22 t3 hi0 hz0 none 0 0 [] hold n hn (by omega) (by omega) (by omega)
      (by rw [hb]; omega) (by rw [Nat.zero_add]; exact growslice_fits (by omega) (by rw [hb]; omega))
    simpa only [Nat.zero_add] using h
  have hGn : n ≤ grownCap w n 0 66 := grownCap_ge w _ _ _
  obtain ⟨G, hG⟩ : ∃ G, G = grownCap w n 0 66 := ⟨_, rfl⟩
  rw [← hG] at hrz hGn ⊢
  have hG63 : G ≤ 9223372036854775807 := by
    have := grownCap_le_maxLen w n 0 66 (by unfold maxLen; omega)
    rw [← hG] at this
    unfold maxLen at this
    omega
  clear hold hG
  go_enter Try.func98, nt
  go_wp2_with (at_builtin; refine Lib.wpList_append_run _ rfl _ _ _ _ rfl _ _ rfl rfl _ _ (hrz _) ?_)
  all_goals (go_ret; exact ⟨rfl, rfl⟩)
set_option maxRecDepth 100000 in
theorem grow_nil0 (w : World) : Calls Try.prog 98 #[.slice none 0 0, .int .i64 0] w fun e w' => e = .returned (.slice none 0 0) ∧ w' = w := by
  have mixed := hm
  have t0 := Try.underlying0; have a0 := Try.isAgg0; have z0 := Try.sizeOf0; have v0 := Try.zeroValue0; have u0 := run_underlying Try.underlying0
  have t3 := Try.underlying3; have a3 := Try.isAgg3; have z3 := Try.sizeOf3; have v3 := Try.zeroValue3; have u3 := run_underlying Try.underlying3
  have t4 := Try.underlying4; have a4 := Try.isAgg4; have z4 := Try.sizeOf4; have v4 := Try.zeroValue4; have u4 := run_underlying Try.underlying4
  have t9 := Try.underlying9; have a9 := Try.isAgg9; have z9 := Try.sizeOf9; have v9 := Try.zeroValue9; have u9 := run_underlying Try.underlying9
  have t20 := Try.underlying20; have a20 := Try.isAgg20; have z20 := Try.sizeOf20; have v20 := Try.zeroValue20; have u20 := run_underlying Try.underlying20
  have t22 := Try.underlying60; have a22 := Try.isAgg60; have z22 := Try.sizeOf60; have v22 := Try.zeroValue60; have u22 := run_underlying Try.underlying60
  have nt : Try.f98.ntmps = 27 := rfl
  go_enter Try.func98, nt
  go_wp2
  go_ret
  exact ⟨rfl, rfl⟩
theorem two_args {φ : Nat → Nat × Nat} {h : Hp} {S : Nat → Prop} {w : World} {vs : Array Value} {n : Int} (hv : Reps φ h S w [.ns, .int .i64 n] vs) : vs = #[.slice none 0 0, .int .i64 n] := by
  obtain ⟨h1, h2⟩ := hv
  obtain ⟨a, b, rfl⟩ : ∃ a b, vs = #[a, b] := by
    obtain ⟨l⟩ := vs
    match l, h1 with
    | [a, b], _ => exact ⟨a, b, rfl⟩
  have e1 := h2 0 _ a rfl rfl
  have e2 := h2 1 _ b rfl rfl
  cases e1
  cases e2
  rfl
theorem grow0_ok {h : Hp} {nx : Nat} : SOk Try.prog 98 [.ns, .int .i64 0] h nx .ns h nx := by
  intro w0 w φ S vs hf hR hv
  have := two_args hv
  subst this
  refine (grow_nil0 w).mono fun e w' he => ?_
  obtain ⟨rfl, rfl⟩ := he
  exact ⟨_, φ, S, rfl, hR, .refl, fun _ h _ => h, hf, .ns⟩
theorem grow_ok (n : Nat) (hn : 0 < n) (hb : n ≤ 20000) {h : Hp} {nx : Nat} : SOk Try.prog 98 [.ns, .int .i64 n] h nx (.sl nx 0 0 0 none) (upd h nx (some ⟨0, 3, [], none⟩)) (nx + 1) := by
  intro w0 w φ S vs hf hR hv
  have := two_args hv
  subst this
  obtain ⟨i0, z, hi, hz, hs, hby, hzc⟩ := ocInfo
  refine (grow_nil i0 z hi hz hs hby n hn hb w).mono fun e w' he => ?_
  obtain ⟨rfl, rfl⟩ := he
  have hG := grownCap_ge w n 0 66
  generalize hA : (#[] ++ Builtin.zeroCells z.cells n ++ Builtin.zeroCells z.cells (grownCap w n 0 66 - n) : Array Value) = arr
  have hat := alloc_at (w := w.drew) (.cells arr 66)
  have hd : w.drew.heap.size = w.heap.size := rfl
  rw [hd] at hat
  obtain ⟨q1, q2⟩ := hR.new (w' := w.drew.alloc (.cells arr 66)) (below_drew_alloc _) (hf nx (Nat.le_refl _)) (Nat.le_refl _) hat (cells := []) (by simp) (.inl rfl) (fun i c v hc => by simp at hc) 3
  refine ⟨_, _, S, rfl, q1, q2, fun _ h _ => h, fun id hid => ?_, .sl _ _ _ _ _ _ _ ⟨_, by simp [upd]; rfl, Nat.le_refl _, fun _ => ⟨0, by simp [upd], fun _ => by simp [upd], ?_, by omega, fun _ h => by cases h⟩⟩⟩
  · simp only [upd]
    rw [if_neg (by omega)]
    exact hf id (by omega)
  · have hsz : arr.size = grownCap w n 0 66 * 3 := by
      rw [← hA]
      rw [Array.size_append, Array.size_append, size_zeroCells, size_zeroCells, hzc]
      simp only [Array.size_empty]
      omega
    have hz' : szOf (w.drew.alloc (.cells arr 66)) w.heap.size = arr.size := szOf_at hat
    simp only [upd, if_true]
    rw [hz', hsz]
    simp
end Go.Proofs.P6
end
section
set_option linter.unusedVariables false
set_option linter.unusedSimpArgs false
set_option maxRecDepth 10000
set_option maxHeartbeats 4000000
namespace Go.Proofs.P6
open Go.Ex
def catV (b c : List Outc) : V × List LB := if (b ++ c).length = 0 then (.ro 0 [], []) else (.sl 0 0 0 (b ++ c).length none, [⟨0, 3, fl outCd (b ++ c), none⟩])
def rowsCd : Cd (List Outc) := .slice outCd
theorem OkF.W {sh : Nat → Bool} {f : Nat} {C : Cmd} {ts : List Nat} {nt : Nat} (hf : compF Try.prog sh f = some (C, ts, nt)) {args : List V} (nt0 : args.length ≤ nt) {r : V × List LB}
    (hw : Ex.W Try.prog C (fun e s => endK e (∃ own : List Nat, own.Nodup ∧ expV s.h own (resV ts s.t) = some r.1 ∧ own.mapM (expB s.h own) = some r.2)) ⟨initT args, none0, 0⟩ ⟨⟩ ⟨⟩) (hpb : ∀ b ∈ r.2, V.pureL b.cells = true ∧ b.mp = none) : OkF Try.prog f args r :=
  OkF.of hm hf nt0 (wpA_mono C (fun e s h => by cases e <;> exact h) hw) hpb
theorem app_exact {h : Hp} {nx id ver : Nat} {l l' : List Outc} {ids : List Nat} {K : V → Hp → Nat → Option (List Nat) → Option (List Nat) → Prop} (hb : h id = some ⟨ver, 3, fl outCd l, none⟩) (hl : l.length ≤ 10000) (hl' : l'.length ≤ 10000) :
    appK 3 24 (.sl id ver 0 l.length none) (some (l'.length, fl outCd l')) h nx ids K ⟨⟩ = K (.sl id (ver + 1) 0 (l ++ l').length none) (upd h id (some ⟨ver + 1, 3, fl outCd (l ++ l'), none⟩)) nx (some (id :: ids)) (some [id]) := by
  have e62 := Go.Ex.e62
  have e47 := Go.Ex.e47
  have hfl : (fl outCd l).length = l.length * 3 := flat_len l
  have ht : (fl outCd l).take (l.length * 3) = fl outCd l := List.take_of_length_le (by omega)
  simp only [appK, appA, hb]
  rw [if_pos ⟨trivial, trivial, trivial, by omega, by omega, by omega⟩]
  simp only [List.drop_zero, ht, fl_append, List.length_append, ite_self]
  rfl
def CatI (b c : List Outc) (k : Nat) (t : St) : Prop := t.t 25 = .ro 2 (fl rowsCd [b, c]) ∧ ∃ id ver, t.t 6 = .sl id ver 0 (([b, c].take k).flatten).length none ∧ t.h id = some ⟨ver, 3, fl outCd ([b, c].take k).flatten, none⟩
theorem concat_ok (b c : List Outc) (hb : b.length ≤ 5000) (hc : c.length ≤ 5000) : OkF Try.prog 45 [.ro 2 [.ro b.length (fl outCd b), .ro c.length (fl outCd c)]] (catV b c) := by
  have e62 := Go.Ex.e62
  have hfl : fl rowsCd [b, c] = [.ro b.length (fl outCd b), .ro c.length (fl outCd c)] := rfl
  rw [← hfl]
  refine OkF.W h45 (of_decide_eq_true rfl) ?_ (fun q hq => ?_)
  · unfold c45
    simp -dsimp
    refine for_lt 2 (fun k t => t.t 9 = .ro 2 (fl rowsCd [b, c]) ∧ t.t 0 = .ro 2 (fl rowsCd [b, c]) ∧ t.t 3 = .int .i64 (([b, c].take k).flatten).length ∧ t.h = none0 ∧ t.nx = 0) rfl (by decide) (by simp -dsimp) (by simp -dsimp) (by simp -dsimp) (fun k t hk hI hi hn => ?_) (fun t hI hi hn => ?_)
    · obtain ⟨i9, i0, i3, ih, inx⟩ := hI
      have hk' : k < [b, c].length := hk
      have hg : [b, c][k]? = some [b, c][k] := List.getElem?_eq_getElem hk'
      have hx5 : [b, c][k].length ≤ 5000 := by
        have : k = 0 ∨ k = 1 := by omega
        rcases this with rfl | rfl
        · exact hb
        · exact hc
      have htk : ([b, c].take (k + 1)).flatten = ([b, c].take k).flatten ++ [b, c][k] := by
        rw [List.take_succ_eq_append_getElem hk', List.flatten_append]
        simp
      have hpre : (([b, c].take k).flatten).length ≤ 10000 := by
        have : k = 0 ∨ k = 1 := by omega
        rcases this with q | q <;> subst q <;> simp <;> omega
      generalize [b, c][k] = x at hg hx5 htk
      rw [htk]
      generalize ([b, c].take k).flatten = pre at i3 hpre
      have e1 : ∀ h K, iaddrK h (.ro 2 (fl rowsCd [b, c])) (.int .i64 k) 1 K ⟨⟩ = K (.rp (fl rowsCd [b, c]) k) [] := fun h K => by
        have := iaddr_fl (d := rowsCd) (n := 1) (kk := .i64) (h := h) (K := K) (l := [b, c]) rfl (by decide) hg
        rwa [Nat.mul_one] at this
      have e2 : ∀ h, ldA h (.rp (fl rowsCd [b, c]) k) none = some (.ro x.length (fl outCd x)) := fun h => by
        have := ld_fl0 (d := rowsCd) (n := 1) (h := h) (l := [b, c]) rfl (by decide) hg
        rw [Nat.mul_one] at this
        exact this
      have hw : IntKind.i64.wrap ((pre.length : Int) + (x.length : Int)) = (pre.length : Int) + (x.length : Int) := IntWalk.i64_in _ (by omega)
      have hpos : ¬ ((pre.length : Int) + (x.length : Int) < 0) := by omega
      unfold k45_0
      simp -dsimp [i9, i0, i3, hi, hn, e1, e2, hw, hpos, ih, inx]
    · obtain ⟨i9, i0, i3, ih, inx⟩ := hI
      have hall : ([b, c].take 2).flatten = b ++ c := by simp
      rw [hall] at i3
      simp -dsimp [i3, ih, inx]
      by_cases hz : (b ++ c).length = 0
      · have hb0 : b = [] := by simp at hz; exact hz.1
        have hc0 : c = [] := by simp at hz; exact hz.2
        subst hb0 hc0
        simp -dsimp
        refine ⟨_, _, _, grow0_ok, ?_⟩
        simp -dsimp [i0]
        refine for_lt 2 (fun k t => t.t 25 = .ro 2 (fl rowsCd [[], []]) ∧ t.t 6 = .ns) rfl (by decide) (by simp -dsimp) (by simp -dsimp) (by simp -dsimp) (fun k t hk hI hi hn => ?_) (fun t hI hi hn => ?_)
        · obtain ⟨j25, j6⟩ := hI
          have hg : [([] : List Outc), []][k]? = some [] := by
            have : k = 0 ∨ k = 1 := by omega
            rcases this with rfl | rfl <;> rfl
          have e1 : ∀ h K, iaddrK h (.ro 2 (fl rowsCd [[], []])) (.int .i64 k) 1 K ⟨⟩ = K (.rp (fl rowsCd [[], []]) k) [] := fun h K => by
            have := iaddr_fl (d := rowsCd) (n := 1) (kk := .i64) (h := h) (K := K) (l := [[], []]) rfl (by decide) hg
            rwa [Nat.mul_one] at this
          have e2 : ∀ h, ldA h (.rp (fl rowsCd [[], []]) k) none = some (.ro 0 []) := fun h => by
            have := ld_fl0 (d := rowsCd) (n := 1) (h := h) (l := [[], []]) rfl (by decide) hg
            rw [Nat.mul_one] at this
            exact this
          have e3 : ∀ h nx ids K, appK 3 24 .ns (some (0, [])) h nx ids K ⟨⟩ = K .ns h nx (some ids) (some []) := fun h nx ids K => by
            simp [appK, appA, resK]
          unfold k45_1
          simp -dsimp [j25, j6, hi, hn, e1, e2, e3]
        · obtain ⟨j25, j6⟩ := hI
          simp -dsimp [j6]
          exact ⟨[], .nil, rfl, rfl⟩
      · have hpos : 0 < (b ++ c).length := by omega
        have hgr := grow_ok (h := none0) (nx := 0) (b ++ c).length hpos (by rw [List.length_append]; omega)
        rw [List.length_append] at hgr
        refine ⟨_, _, _, hgr, ?_⟩
        simp -dsimp [i0]
        refine for_lt 2 (CatI b c) rfl (by decide) ?_ (by simp -dsimp) (by simp -dsimp) (fun k t hk hI hi hn => ?_) (fun t hI hi hn => ?_)
        · exact ⟨by simp -dsimp, 0, 0, by simp -dsimp, by simp -dsimp [fl_nil]⟩
        · obtain ⟨j25, id, ver, j6, jh⟩ := hI
          have hk' : k < [b, c].length := hk
          have hg : [b, c][k]? = some [b, c][k] := List.getElem?_eq_getElem hk'
          have hx5 : [b, c][k].length ≤ 5000 := by
            have : k = 0 ∨ k = 1 := by omega
            rcases this with rfl | rfl
            · exact hb
            · exact hc
          have htk : ([b, c].take (k + 1)).flatten = ([b, c].take k).flatten ++ [b, c][k] := by
            rw [List.take_succ_eq_append_getElem hk', List.flatten_append]
            simp
          have hpre : (([b, c].take k).flatten).length ≤ 10000 := by
            have : k = 0 ∨ k = 1 := by omega
            rcases this with q | q <;> subst q <;> simp <;> omega
          generalize [b, c][k] = x at hg hx5 htk
          have goal : ∀ t' : St, t'.t 25 = .ro 2 (fl rowsCd [b, c]) → t'.t 6 = .sl id (ver + 1) 0 (([b, c].take k).flatten ++ x).length none → t'.h = upd t.h id (some ⟨ver + 1, 3, fl outCd (([b, c].take k).flatten ++ x), none⟩) → CatI b c (k + 1) t' := fun t' h1 h2 h3 => by
            refine ⟨h1, id, ver + 1, ?_, ?_⟩
            · rw [htk]; exact h2
            · rw [htk, h3]; simp
          generalize ([b, c].take k).flatten = pre at j6 jh hpre goal
          have e1 : ∀ h K, iaddrK h (.ro 2 (fl rowsCd [b, c])) (.int .i64 k) 1 K ⟨⟩ = K (.rp (fl rowsCd [b, c]) k) [] := fun h K => by
            have := iaddr_fl (d := rowsCd) (n := 1) (kk := .i64) (h := h) (K := K) (l := [b, c]) rfl (by decide) hg
            rwa [Nat.mul_one] at this
          have e2 : ∀ h, ldA h (.rp (fl rowsCd [b, c]) k) none = some (.ro x.length (fl outCd x)) := fun h => by
            have := ld_fl0 (d := rowsCd) (n := 1) (h := h) (l := [b, c]) rfl (by decide) hg
            rw [Nat.mul_one] at this
            exact this
          have e3 : ∀ ids K, appK 3 24 (.sl id ver 0 pre.length none) (some (x.length, fl outCd x)) t.h t.nx ids K ⟨⟩ = K (.sl id (ver + 1) 0 (pre ++ x).length none) (upd t.h id (some ⟨ver + 1, 3, fl outCd (pre ++ x), none⟩)) t.nx (some (id :: ids)) (some [id]) := fun ids K => app_exact jh hpre (by omega)
          have hlx : (fl outCd x).length = x.length * 3 := flat_len x
          unfold k45_1
          simp -dsimp [j25, j6, hi, hn, e1, e2, hlx, e3]
          exact goal _ (by simp -dsimp [j25]) (by simp -dsimp) rfl
        · obtain ⟨j25, id, ver, j6, jh⟩ := hI
          have hall : ([b, c].take 2).flatten = b ++ c := by simp
          rw [hall] at j6 jh
          simp -dsimp [j6]
          have hv : catV b c = (.sl 0 0 0 (b ++ c).length none, [⟨0, 3, fl outCd (b ++ c), none⟩]) := by unfold catV; rw [if_neg hz]
          rw [hv]
          have hpure : V.pureL (fl outCd (b ++ c)) = true := fl_pure _
          refine ⟨[id], by simp, ?_, ?_⟩
          · simp only [expV, exp1, expC, resV, jh]
            simp [ixOf]
          · simp [expB, jh, roL, hpure]
  · unfold catV at hq
    split at hq
    · cases hq
    · simp at hq
      subst hq
      exact ⟨fl_pure _, rfl⟩
theorem roFree_oc : ∀ l : List Outc, roFreeL (fl outCd l) = true
  | [] => rfl
  | x :: l => by
    have := roFree_oc l
    show roFreeL ([.int .i64 x.1, .int .i64 x.2.1, .int .i64 x.2.2] ++ fl outCd l) = true
    simp [roFreeL, roFree, this]
end Go.Proofs.P6
end
section
set_option linter.unusedVariables false
set_option linter.unusedSimpArgs false
set_option maxRecDepth 10000
namespace Go.Proofs.P6
open Go.Ex
section
variable {fs : List Fact} {up : List Span} {late until' : Int}
/-- A run without changes goes from turn to turn. -/
def goR (fs : List Fact) (up : List Span) (late until' : Int) : Nat → Bd → Bd
  | 0, b => b
  | k + 1, b => match b.l with
    | [] => b
    | x :: _ => if (since up x.2.1).2 = true ∧ (since up x.2.1).1 ≤ until' then goR fs up late until' k (b.turns fs late (since up x.2.1).1) else b
theorem goR_nil {k : Nat} {b : Bd} (h : b.l = []) : goR fs up late until' k b = b := by
  cases k with
  | zero => rfl
  | succ k => unfold goR; rw [h]
theorem goR_stop {k : Nat} {b : Bd} {x : Entry} {r : List Entry} (h : b.l = x :: r) (hx : ¬ ((since up x.2.1).2 = true ∧ (since up x.2.1).1 ≤ until')) : goR fs up late until' k b = b := by
  cases k with
  | zero => rfl
  | succ k =>
    unfold goR
    rw [h]
    exact if_neg hx
theorem goR_go {k : Nat} {b : Bd} {x : Entry} {r : List Entry} (h : b.l = x :: r) (hx : (since up x.2.1).2 = true ∧ (since up x.2.1).1 ≤ until') : goR fs up late until' (k + 1) b = goR fs up late until' k (b.turns fs late (since up x.2.1).1) := by
  show (match b.l with | [] => b | x :: _ => if (since up x.2.1).2 = true ∧ (since up x.2.1).1 ≤ until' then goR fs up late until' k (b.turns fs late (since up x.2.1).1) else b) = _
  rw [h]
  exact if_pos hx
/-- What is left after a moment's turns comes later. -/
theorem turnsN_later (n : Int) : ∀ (k : Nat) {b : Bd}, b.l.length ≤ k → Srt b.l → ∀ x ∈ (Bd.turnsN fs late n k b).l, n < x.2.1
  | 0, b, hk, hs, x, hx => by
    have : b.l = [] := List.length_eq_zero_iff.1 (by omega)
    rw [turnsN_nil this, this] at hx
    cases hx
  | k + 1, b, hk, hs, x, hx => by
    rcases hl : b.l with _ | ⟨y, r⟩
    · rw [turnsN_nil hl, hl] at hx; cases hx
    · have hp := hs
      unfold Srt at hp
      rw [hl] at hp
      obtain ⟨h1, h2⟩ := List.pairwise_cons.1 hp
      by_cases hy : y.2.1 ≤ n
      · rw [turnsN_go hl hy] at hx
        rw [hl, List.length_cons] at hk
        exact turnsN_later n k (b := b.turn fs late n y r) (by show r.length ≤ k; omega) h2 x hx
      · rw [turnsN_stop hl hy, hl] at hx
        rcases List.mem_cons.1 hx with rfl | hx
        · omega
        · have := h1 x hx
          simp [befE] at this
          omega
theorem srt_head {l : List Entry} {x : Entry} {r : List Entry} (hs : Srt l) (hl : l = x :: r) : ∀ y ∈ l, x.2.1 ≤ y.2.1 := fun y hy => by
  subst hl
  rcases List.mem_cons.1 hy with rfl | hy
  · exact Int.le_refl _
  · have := (List.pairwise_cons.1 hs).1 y hy
    simp [befE] at this
    omega
/-- A run without changes is such a walk. -/
theorem runR_goR (ho : SpOk up) (hu : 0 ≤ until') : ∀ (k : Nat) (i : Nat) (now : Int) (b : Bd), RI [] i now b → (∀ x ∈ b.l, now ≤ x.2.1) → now ≤ until' → runR fs up late until' k [] i now b = goR fs up late until' k b
  | 0, i, now, b, hR, hn, hnu => rfl
  | k + 1, i, now, b, hR, hn, hnu => by
    have hnt : nextT up until' [] now b = nextL up until' now b := rfl
    unfold runR
    rw [hnt]
    rcases hl : b.l with _ | ⟨x, r⟩
    · have : nextL up until' now b = until' + 1 := by unfold nextL; rw [hl]
      rw [this, if_pos (by omega), goR_nil hl]
    · have hx := hn x (by rw [hl]; simp)
      have hL : nextL up until' now b = if (since up x.2.1).2 = true then min (until' + 1) (since up x.2.1).1 else until' + 1 := by
        unfold nextL
        rw [hl]
        simp only
        rw [show max x.2.1 now = x.2.1 by omega]
      by_cases hc : (since up x.2.1).2 = true ∧ (since up x.2.1).1 ≤ until'
      · have hN : nextL up until' now b = (since up x.2.1).1 := by rw [hL, if_pos hc.1]; omega
        rw [hN, if_neg (by omega), goR_go hl hc]
        have hge := since_ge hc.1
        have hnow := hR.now0
        have hub : upB up (since up x.2.1).1 = true := since_up ho hc.1
        have ht : b.turnsIf fs up late (since up x.2.1).1 = b.turns fs late (since up x.2.1).1 := by unfold Bd.turnsIf; rw [if_pos hub]
        have hc0 : chgsL (since up x.2.1).1 [] i b = ([], i, b) := rfl
        rw [hc0]
        simp only
        rw [ht]
        have hR2 := ((hR.at (n := (since up x.2.1).1) (by omega)).turnsIf fs up late (since up x.2.1).1)
        rw [ht] at hR2
        exact runR_goR ho hu k i _ _ hR2 (fun y hy => by
          have := turnsN_later (fs := fs) (late := late) (since up x.2.1).1 b.l.length (b := b) (Nat.le_refl _) (ents_ok hR.ok).srt y hy
          omega) hc.2
      · have hN : until' < nextL up until' now b := by
          rw [hL]
          split
          · rename_i q
            have : ¬ (since up x.2.1).1 ≤ until' := fun z => hc ⟨q, z⟩
            omega
          · omega
        rw [if_pos hN, goR_stop hl hc]
/-- More steps change nothing. -/
theorem goR_more (ho : SpOk up) : ∀ (k m : Nat) (b : Bd), b.l.length ≤ k → b.l.length ≤ m → goR fs up late until' k b = goR fs up late until' m b
  | k, m, b, hk, hm => by
    rcases hl : b.l with _ | ⟨x, r⟩
    · rw [goR_nil hl, goR_nil hl]
    · by_cases hc : (since up x.2.1).2 = true ∧ (since up x.2.1).1 ≤ until'
      · rw [hl, List.length_cons] at hk hm
        obtain ⟨k, rfl⟩ : ∃ k', k = k' + 1 := ⟨k - 1, by omega⟩
        obtain ⟨m, rfl⟩ : ∃ m', m = m' + 1 := ⟨m - 1, by omega⟩
        have hge := since_ge hc.1
        have hlt := turns_less (fs := fs) (late := late) (at' := (since up x.2.1).1) hl hge
        rw [hl, List.length_cons] at hlt
        rw [goR_go hl hc, goR_go hl hc]
        exact goR_more ho k m _ (by omega) (by omega)
      · rw [goR_stop hl hc, goR_stop hl hc]
/-- The end of a run without changes. -/
theorem endB_goR {l : List Entry} {f : List Fact} (hz : runE l [] f up late until' = 0) : endB l [] f up late until' = goR f up late until' l.length (b0 l) ∧ entsE (endB l [] f up late until').l = 0 := by
  obtain ⟨v1, v2, v3, v4, v5, v6⟩ := runE_zero hz
  have hup := spOk_of v4
  have gd := ents_ok v1
  have hbl := gd.most
  have hri : RI [] 0 0 (b0 l) := ⟨v1, (fun y hy => by cases hy), List.Pairwise.nil, by simp [b0]; omega, by simp [b0], by simp [b0], rfl, by simp, Int.le_refl _⟩
  refine ⟨?_, ?_⟩
  · unfold endB
    rw [runR_goR hup.2 v6.1 _ 0 0 (b0 l) hri (fun x hx => (entE_at (gd.each x hx)).1) v6.1]
    exact goR_more hup.2 _ _ _ (by simp [mu, b0]) (by simp [b0])
  · obtain ⟨rest', i', now', h1, h2, h3⟩ := runR_end (fs := f) (late := late) hup.2 v6.1 (P := fun _ _ _ _ => True) (fun _ _ _ _ _ _ _ _ _ => trivial) _ [] 0 0 (b0 l) (Nat.lt_succ_self _) hri (fun y hy => by cases hy) v6.1 trivial
    exact h1.ok
end
end Go.Proofs.P6
end
section
set_option linter.unusedVariables false
set_option linter.unusedSimpArgs false
set_option maxRecDepth 10000
set_option maxHeartbeats 8000000
namespace Go.Proofs.P6
open Go.Ex
section
variable {fs : List Fact} {up : List Span} {late until' : Int}
theorem goR_cut (ho : SpOk up) {cut : Int} (hcu : cut ≤ until') : ∀ (k : Nat) (b : Bd), b.l.length ≤ k → goR fs up late until' k b = goR fs up late until' k (goR fs up late cut k b)
  | 0, b, hk => rfl
  | k + 1, b, hk => by
    rcases hl : b.l with _ | ⟨x, r⟩
    · rw [goR_nil (k := k + 1) (until' := cut) hl]
    · by_cases hc : (since up x.2.1).2 = true ∧ (since up x.2.1).1 ≤ cut
      · have hc2 : (since up x.2.1).2 = true ∧ (since up x.2.1).1 ≤ until' := ⟨hc.1, by omega⟩
        have hge := since_ge hc.1
        have hlt := turns_less (fs := fs) (late := late) (at' := (since up x.2.1).1) hl hge
        have ih := goR_cut ho hcu k (b.turns fs late (since up x.2.1).1) (by omega)
        have hlen : ∀ (k : Nat) (b : Bd), (goR fs up late cut k b).l.length ≤ b.l.length := by
          intro k
          induction k with
          | zero => exact fun b => Nat.le_refl _
          | succ k ih =>
            intro b
            rcases hl : b.l with _ | ⟨x, r⟩
            · rw [goR_nil hl, hl]; exact Nat.le_refl _
            · by_cases hc : (since up x.2.1).2 = true ∧ (since up x.2.1).1 ≤ cut
              · rw [goR_go hl hc, ← hl]
                exact Nat.le_trans (ih _) (turnsN_len _ _ _)
              · rw [goR_stop hl hc, hl]; exact Nat.le_refl _
        have h1 := hlen k (b.turns fs late (since up x.2.1).1)
        rw [goR_go hl hc, goR_go hl hc2, ih]
        exact goR_more ho _ _ _ (by omega) (by omega)
      · rw [goR_stop (until' := cut) hl hc]
/-- Two boards of which one has more behind it. -/
structure Tw (o : List Outc) (b c : Bd) : Prop where
  l : b.l = c.l
  ob : b.off = []
  oc : c.off = []
  out : b.out = o ++ c.out
theorem Tw.turnsN {o : List Outc} (n : Int) : ∀ (k : Nat) {b c : Bd}, Tw o b c → Tw o (Bd.turnsN fs late n k b) (Bd.turnsN fs late n k c)
  | 0, b, c, h => h
  | k + 1, b, c, h => by
    rcases hl : b.l with _ | ⟨x, r⟩
    · rw [turnsN_nil hl, turnsN_nil (by rw [← h.l]; exact hl)]; exact h
    · have hl2 : c.l = x :: r := by rw [← h.l]; exact hl
      by_cases hx : x.2.1 ≤ n
      · rw [turnsN_go hl hx, turnsN_go hl2 hx]
        refine Tw.turnsN n k ⟨rfl, h.ob, h.oc, ?_⟩
        show b.out ++ [(x.1, n, outK fs late b.off x n)] = o ++ (c.out ++ [(x.1, n, outK fs late c.off x n)])
        rw [h.ob, h.oc, h.out, List.append_assoc]
      · rw [turnsN_stop hl hx, turnsN_stop hl2 hx]; exact h
theorem Tw.go {o : List Outc} : ∀ (k : Nat) {b c : Bd}, Tw o b c → Tw o (goR fs up late until' k b) (goR fs up late until' k c)
  | 0, b, c, h => h
  | k + 1, b, c, h => by
    rcases hl : b.l with _ | ⟨x, r⟩
    · rw [goR_nil hl, goR_nil (by rw [← h.l]; exact hl)]; exact h
    · have hl2 : c.l = x :: r := by rw [← h.l]; exact hl
      by_cases hc : (since up x.2.1).2 = true ∧ (since up x.2.1).1 ≤ until'
      · rw [goR_go hl hc, goR_go hl2 hc]
        refine Tw.go k ?_
        have := h.turnsN (fs := fs) (late := late) (since up x.2.1).1 b.l.length
        unfold Bd.turns
        rw [← h.l]
        exact this
      · rw [goR_stop hl hc, goR_stop hl2 hc]; exact h
theorem goR_off : ∀ (k : Nat) {b : Bd}, b.off = [] → (goR fs up late until' k b).off = [] := by
  have hN : ∀ n (k : Nat) {b : Bd}, b.off = [] → (Bd.turnsN fs late n k b).off = [] := by
    intro n k
    induction k with
    | zero => exact fun h => h
    | succ k ih =>
      intro b h
      rcases hl : b.l with _ | ⟨x, r⟩
      · rw [turnsN_nil hl]; exact h
      · by_cases hx : x.2.1 ≤ n
        · rw [turnsN_go hl hx]; exact ih h
        · rw [turnsN_stop hl hx]; exact h
  intro k
  induction k with
  | zero => exact fun h => h
  | succ k ih =>
    intro b h
    rcases hl : b.l with _ | ⟨x, r⟩
    · rw [goR_nil hl]; exact h
    · by_cases hc : (since up x.2.1).2 = true ∧ (since up x.2.1).1 ≤ until'
      · rw [goR_go hl hc]; exact ih (hN _ _ h)
      · rw [goR_stop hl hc]; exact h
theorem fe_fs {l : List Int} (h : ∀ k, k < l.length → (l[k]?).getD 0 = 0) : fe (fsE l) l.length = 0 := fe_none fun k hk => h k hk
theorem runE_mk {l : List Entry} {f : List Fact} (h1 : entsE l = 0) (h3 : factsE f = 0) (h4 : factsE [(upName, up)] = 0) (h5 : 0 ≤ late ∧ late ≤ 1000000000) (h6 : 0 ≤ until' ∧ until' ≤ 1000000000000) : runE l [] f up late until' = 0 := by
  have e5 : rgE late 0 1000000000 = 0 := by unfold rgE; rw [if_neg]; simp [inB]; omega
  have e6 : rgE until' 0 1000000000000 = 0 := by unfold rgE; rw [if_neg]; simp [inB]; omega
  have e2 : changesE ([] : List Change) = 0 := rfl
  show fe (fsE _) 6 = 0
  have : errL l [] f up late until' = [0, 0, 0, 0, 0, 0] := by unfold errL; rw [h1, e2, h3, h4, e5, e6]
  rw [this]
  rfl
theorem on_plain {l : List Entry} {f : List Fact} {cut : Int} (hz : runE l [] f up late until' = 0) (hc : runE l [] f up late cut = 0) (hcu : cut ≤ until') :
    runE (endB l [] f up late cut).l [] f up late until' = 0 ∧ (endB l [] f up late until').out = (endB l [] f up late cut).out ++ (endB (endB l [] f up late cut).l [] f up late until').out ∧ (endB l [] f up late until').l = (endB (endB l [] f up late cut).l [] f up late until').l := by
  obtain ⟨v1, v2, v3, v4, v5, v6⟩ := runE_zero hz
  have hup := spOk_of v4
  obtain ⟨e1, g1⟩ := endB_goR hz
  obtain ⟨e2, g2⟩ := endB_goR hc
  have hr := runE_mk (late := late) (until' := until') g2 v3 v4 v5 v6
  obtain ⟨e3, g3⟩ := endB_goR hr
  refine ⟨hr, ?_⟩
  generalize hC : endB l [] f up late cut = C at *
  have hlen : C.l.length ≤ l.length := by
    rw [e2]
    have : ∀ (k : Nat) (b : Bd), (goR f up late cut k b).l.length ≤ b.l.length := by
      intro k
      induction k with
      | zero => exact fun b => Nat.le_refl _
      | succ k ih =>
        intro b
        rcases hl : b.l with _ | ⟨x, r⟩
        · rw [goR_nil hl, hl]; exact Nat.le_refl _
        · by_cases hc : (since up x.2.1).2 = true ∧ (since up x.2.1).1 ≤ cut
          · rw [goR_go hl hc, ← hl]
            exact Nat.le_trans (ih _) (turnsN_len _ _ _)
          · rw [goR_stop hl hc, hl]; exact Nat.le_refl _
    exact this _ (b0 l)
  have h1 := goR_cut (fs := f) (late := late) hup.2 hcu l.length (b0 l) (Nat.le_refl _)
  rw [← e2, ← e1] at h1
  have hoff : C.off = [] := by rw [e2]; exact goR_off _ rfl
  have tw : Tw C.out C (b0 C.l) := ⟨rfl, hoff, rfl, by simp [b0]⟩
  have tg := tw.go (fs := f) (up := up) (late := late) (until' := until') l.length
  have h3 := goR_more (fs := f) (up := up) (late := late) (until' := until') hup.2 l.length C.l.length (b0 C.l) hlen (Nat.le_refl _)
  rw [h3, ← e3] at tg
  rw [h1]
  exact ⟨tg.out, tg.l⟩
end
theorem oc_seq (n : Bool) (x y : Outc) : seqA n [0, 0, 0] (.agg (outCd.cells x)) (.agg (outCd.cells y)) = some (.bool (if n then !decide (x = y) else decide (x = y))) := by
  obtain ⟨a1, a2, a3⟩ := x
  obtain ⟨b1, b2, b3⟩ := y
  have e : ∀ a b c : Int, outCd.cells (a, b, c) = [.int .i64 a, .int .i64 b, .int .i64 c] := fun _ _ _ => rfl
  rw [e, e]
  cases n <;> simp [seqA, tagOf, eqCells] <;> rw [Bool.eq_iff_iff] <;> simp
theorem equalOc_ok (l m : List Outc) (hl : l.length < 2 ^ 62) : OkF Try.prog 44 [.ro l.length (fl outCd l), .ro m.length (fl outCd m)] (.bool (decide (l = m)), []) :=
  equal_ok (d := outCd) (esz := 3) hm h44 rfl (by decide) (fun a b => oc_seq true a b) l m hl
end Go.Proofs.P6
end
section
set_option linter.unusedVariables false
set_option linter.unusedSimpArgs false
set_option maxRecDepth 10000
set_option maxHeartbeats 8000000
namespace Go.Proofs.P6
open Go.Ex
theorem runO_bad {l : List Entry} {c : List Change} {f : List Fact} {up : List Span} {late until' : Int} (h : (runO l c f up late until').2.2 ≠ 0) : (runO l c f up late until').1 = [] ∧ (runO l c f up late until').2.1 = [] := by
  unfold runO at h ⊢
  split
  · exact ⟨rfl, rfl⟩
  · rename_i q; rw [if_neg q] at h; exact absurd rfl h
theorem runO_good {l : List Entry} {c : List Change} {f : List Fact} {up : List Span} {late until' : Int} (h : (runO l c f up late until').2.2 = 0) : runE l c f up late until' = 0 ∧ runO l c f up late until' = ((endB l c f up late until').out, (endB l c f up late until').l, 0) := by
  unfold runO at h ⊢
  split
  · rename_i q; rw [if_pos q] at h; exact absurd h q
  · rename_i q; exact ⟨by simpa using q, rfl⟩
theorem SchedulesGoOn (l : List Entry) (f : List Fact) (up : List Span) (late cut until' : Int) (hl : ∀ x ∈ l, entOk x) :
    OkF Try.prog 14 [rE l, rFc f, rSp up, .int .i64 late, .int .i64 cut, .int .i64 until'] (.bool true, []) := by
  have e62 := Go.Ex.e62
  have hnil : ∀ x ∈ ([] : List Change), chOk x := fun x hx => by cases hx
  have p1 := Run_ok l [] f up late until' hl hnil
  have p2 := Run_ok l [] f up late cut hl hnil
  have b1 := @runO_bad l [] f up late until'
  have b2 := @runO_bad l [] f up late cut
  have g1 := @runO_good l [] f up late until'
  have g2 := @runO_good l [] f up late cut
  generalize hr1 : runO l [] f up late until' = r1 at *
  generalize hr2 : runO l [] f up late cut = r2 at *
  obtain ⟨a, x, e⟩ := r1
  obtain ⟨b, y, g⟩ := r2
  simp only at p1 p2 b1 b2 g1 g2
  refine OkF.W0 hm h14 (of_decide_eq_true rfl) ?_
  unfold c14
  simp -dsimp
  refine call_one p1 (okRes_of (by simp)) ?_
  simp -dsimp
  refine call_one p2 (okRes_of (by simp)) ?_
  by_cases q1 : e = 0
  rotate_left
  · obtain ⟨rfl, rfl⟩ := b1 q1
    by_cases q2 : g = 0
    · simp -dsimp [q1, q2]
      refine call_bool awake_ok ?_
      simp -dsimp
    · obtain ⟨rfl, rfl⟩ := b2 q2
      simp -dsimp [q1, q2]
      refine call_bool awake_ok ?_
      simp -dsimp
  subst q1
  by_cases q2 : g = 0
  rotate_left
  · obtain ⟨rfl, rfl⟩ := b2 q2
    simp -dsimp [q2]
    refine call_bool awake_ok ?_
    simp -dsimp
  subst q2
  by_cases q3 : until' < cut
  · simp -dsimp [q3]
    refine call_bool awake_ok ?_
    simp -dsimp
  obtain ⟨z1, w1⟩ := g1 rfl
  obtain ⟨z2, w2⟩ := g2 rfl
  obtain ⟨z3, o1, o2⟩ := on_plain z1 z2 (by omega)
  obtain ⟨_, _, _, ve, vl⟩ := once_end z1
  obtain ⟨_, _, _, ve2, vl2⟩ := once_end z2
  obtain ⟨_, _, _, ve3, vl3⟩ := once_end z3
  simp only [Prod.mk.injEq] at w1 w2
  obtain ⟨rfl, rfl, _⟩ := w1
  obtain ⟨rfl, rfl, _⟩ := w2
  have hyok : ∀ z ∈ (endB l [] f up late cut).l, entOk z := fun z hz => entE_ok ((ents_ok ve2).each z hz)
  have p3 := Run_ok (endB l [] f up late cut).l [] f up late until' hyok hnil
  have hr3 : runO (endB l [] f up late cut).l [] f up late until' = ((endB (endB l [] f up late cut).l [] f up late until').out, (endB (endB l [] f up late cut).l [] f up late until').l, 0) := by unfold runO; rw [if_neg (by simpa using z3)]
  rw [hr3] at p3
  generalize endB (endB l [] f up late cut).l [] f up late until' = D at *
  generalize endB l [] f up late cut = C at *
  generalize endB l [] f up late until' = B at *
  have hxl := ents_le ve
  have hco := concat_ok C.out D.out (by omega) (by omega)
  have t2 : ∀ (h : Hp) (n : Nat), toRO (upd h n (some ⟨0, 1, [rOc C.out, rOc D.out], none⟩)) 8 (.sl n 0 0 2 (some 2)) = some (.ro 2 [rOc C.out, rOc D.out]) := fun h n => by
    simp [toRO, cellRO, V.pureL, V.pure]
  have heq := equalOc_ok B.out (C.out ++ D.out) (by omega)
  rw [decide_eq_true o1] at heq
  have heq2 := equalEnt_ok B.l D.l (by omega)
  rw [decide_eq_true o2] at heq2
  simp only at p3
  simp -dsimp [q3]
  refine call_one p3 (okRes_of (by simp)) ?_
  simp -dsimp [fillA, t2]
  by_cases hz : (C.out ++ D.out).length = 0
  · have hcv : catV C.out D.out = (.ro 0 [], []) := by unfold catV; rw [if_pos hz]
    have hn : C.out ++ D.out = [] := List.length_eq_zero_iff.1 hz
    rw [hn] at heq
    rw [hcv] at hco
    refine call_one hco (by simp [okRes, roFree]) ?_
    simp -dsimp
    refine call_bool heq ?_
    simp -dsimp
    refine call_bool heq2 ?_
    simp -dsimp
    refine call_bool awake_ok ?_
    simp -dsimp
  · have hcv : catV C.out D.out = (.sl 0 0 0 (C.out ++ D.out).length none, [⟨0, 3, fl outCd (C.out ++ D.out), none⟩]) := by unfold catV; rw [if_neg hz]
    rw [hcv] at hco
    refine call_own hco (by simp [okRes, roFree, roFree_oc]) ?_
    generalize C.out ++ D.out = E at *
    have t3 : ∀ (h : Hp) (n : Nat), toRO (upd h n (some ⟨0, 3, fl outCd E, none⟩)) 8 (.sl n 0 0 E.length none) = some (rOc E) := fun h n => Acc.ro (d := outCd) (h := upd h n (some ⟨0, 3, fl outCd E, none⟩)) (nx := n + 1) (v := .sl n 0 0 E.length none) (l := E) (Acc.mk (by omega) (by simp [upd]; rfl)) (n := 7)
    simp -dsimp [shift, addB, t3]
    refine call_bool heq ?_
    simp -dsimp
    refine call_bool heq2 ?_
    simp -dsimp
    refine call_bool awake_ok ?_
    simp -dsimp
end Go.Proofs.P6
end
