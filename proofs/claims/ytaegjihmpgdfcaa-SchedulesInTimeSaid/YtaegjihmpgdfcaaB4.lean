/- The built-in copy over elements of several cells; slices.Insert of one entry, walked in the model itself: in place, into a new row, at the end; slices.Insert of one entry: at the end, and into a new row; slices.Insert of one entry, as a contract; slices.Delete of one entry, walked in the model itself, and as a contract; slices.Delete of one entry, as a contract; slices.Insert into an empty one. -/
import Derived.WalkKit
import Derived.Lib.Walk
import Derived.Lib.SliceRun
import Derived.Laws.IdiomCopy
import Derived.Lib.Overlaps
import Derived.Laws.Externs
import Derived.Lib.AppendZeros
import Derived.Shelf.RegionOpenPlain
import Derived.Test.YtaegjihmpgdfcaaB3
import Derived.Shelf.Spec.SlicesInsert
import Derived.Lib.AppendZerosOnto
import Derived.Laws.NewBlocks
import Derived.Shelf.SlicesG.Delete
section
set_option linter.unusedVariables false
set_option linter.unusedSimpArgs false
namespace Go.Proofs.P6
open Go.Lib Go.RowKit Go.Ex
theorem copy_rows {P : Program} (w : World) (dT sT ty elem : TypeId) (k b o dLen dCap : Nat) (a : Addr) (sLen sCap n : Nat) (cs : List Value)
    (hu : P.underlying dT = some (.slice elem)) (hs : (P.info? elem).map (·.size) = some k) (hn : n = Nat.min sLen dLen) (hl : cs.length = n * k)
    (hsrc : ∀ j v, cs[j]? = some v → w.cell? (a.add j) = some v) (hc : ∀ j, j < cs.length → (w.cell? ⟨b, o + j, none⟩).isSome = true) (hf : ∀ j, j < cs.length → w.frozen? ⟨b, o + j, none⟩ = false) (h1 : ∀ v ∈ cs, v.oneCell' = true) :
    (Builtin.copy_ #[dT, sT] ty #[.slice (some ⟨b, o, none⟩) dLen dCap, .slice (some a) sLen sCap]).run P w = .ok (goInt n) (w.setCells b o cs) := by
  have hl' := run_loadCells_list (P := P) w a cs hsrc
  have hst := run_storeCells_cells (P := P) b o cs 0 w (by simpa using hc) (by simpa using hf) h1
  rw [hl] at hl'
  cases hq : P.info? elem with
  | none => simp [hq] at hs
  | some i =>
    have hi : i.size = k := by simpa [hq] using hs
    simp [Builtin.copy_, run_underlying hu, Builtin.lenOf, Builtin.firstCells, sizeOf, typeInfo, hq, hi, ← hn, hl', hst]
/-- copy, where its run is known, as a step of a region. -/
theorem copy_step {P : Program} {ops : Array Oper} {o : Oper} {a : Act} {w : World} {K : Act → World → Prop} {Q : Exit → Act → World → Prop} {E : Prop}
    (hg : o.guard = none) (d x : Operand) (dT sT : TypeId) (hop : o.op = Op.call { callee := Callee.builtin Builtin.copy, args := #[d, x], argTypes := #[dT, sT] })
    (v u : Value) (hd : a.eval d = v) (hx : a.eval x = u) {v' : Value} {w' : World} (hr : (Builtin.copy_ #[dT, sT] o.type #[v, u]).run P w = .ok v' w') (hK : K (a.put o.dst v') w') :
    if Region.wanted o (yielded ops a.tmps) = true then Oper.wp P o a w K Q else E := by
  have hw : Region.wanted o (yielded ops a.tmps) = true := by simp [Region.wanted, hg]
  rw [if_pos hw]
  unfold Oper.wp
  simp [execOp, hop, resolve, invoke, builtin, hd, hx, hr, Result.andThen]
  exact hK
theorem entSize : (Try.prog.info? 46).map (·.size) = some 6 := by kernel_rfl
end Go.Proofs.P6
end
section
set_option linter.unusedVariables false
set_option linter.unusedSimpArgs false
namespace Go.Proofs.P6
open Go.Lib Go.RowKit Go.Ex
theorem entInfo : ∃ i0 z, Try.prog.info? 46 = some i0 ∧ i0.zero = some z ∧ i0.size = 6 ∧ i0.bytes = 72 ∧ z.cells.size = 6 := by
  obtain ⟨i0, hi0⟩ := Option.isSome_iff_exists.1 (by kernel_rfl : (Try.prog.info? 46).isSome = true)
  have h1 : (Try.prog.info? 46).map (·.size) = some 6 := by kernel_rfl
  have h2 : (Try.prog.info? 46).map (·.bytes) = some 72 := by kernel_rfl
  have h3 : (Try.prog.info? 46).map (·.zero.isSome) = some true := by kernel_rfl
  have h4 : (Try.prog.info? 46).map (fun i => i.zero.map fun z => z.cells.size) = some (some 6) := by kernel_rfl
  rw [hi0] at h1 h2 h3 h4
  simp only [Option.map_some, Option.some.injEq] at h1 h2 h3 h4
  obtain ⟨z, hz⟩ := Option.isSome_iff_exists.1 h3
  rw [hz] at h4
  simp only [Option.map_some, Option.some.injEq] at h4
  exact ⟨i0, z, hi0, hz, h1, h2, h4⟩
set_option maxHeartbeats 4000000 in
set_option maxRecDepth 100000 in
theorem insert_shift (b off n c i vb voff m vc : Nat) (cs vs : List Value) (w : World) (hi : i < n) (hm0 : 0 < m) (hroom : n + m ≤ c) (hn63 : n + m ≤ 9223372036854775807) (hvb : vb ≠ b)
    (hcl : cs.length = n * 6) (hvl : vs.length = m * 6)
    (hcs : ∀ j v, cs[j]? = some v → w.cell? ⟨b, off + j, none⟩ = some v) (hsp : ∀ j, j < (n + m) * 6 → (w.cell? ⟨b, off + j, none⟩).isSome = true) (hfz : ∀ j, j < (n + m) * 6 → w.frozen? ⟨b, off + j, none⟩ = false)
    (hvs : ∀ j v, vs[j]? = some v → w.cell? ⟨vb, voff + j, none⟩ = some v) (h1c : ∀ v ∈ cs, v.oneCell' = true) (h1v : ∀ v ∈ vs, v.oneCell' = true)
    (tA tB : TypeId) (kA kB : Nat) (hsa : w.shape? vb = some (tA, kA)) (hsb : w.shape? b = some (tB, kB)) (hkB : kB ≠ 0) (hfa : w.frozen? ⟨vb, voff, none⟩ = false) (hfe : w.frozen? ⟨vb, kA, none⟩ = false) :
    Calls Try.prog 131 #[.slice (some ⟨b, off, none⟩) n c, .int .i64 i, .slice (some ⟨vb, voff, none⟩) m vc] w fun e w' =>
      e = .returned (.slice (some ⟨b, off, none⟩) (n + m) c) ∧ w' = (w.drew.setCells b (off + (i + m) * 6) (cs.drop (i * 6))).setCells b (off + i * 6) vs := by
  have hov : ∀ lb cb, (callFunc 164 #[.slice (some ⟨vb, voff, none⟩) m vc, .slice (some ⟨b, off + (i + m) * 6, none⟩) lb cb]).run Try.prog w = .ok (.value (.bool false)) w := fun lb cb => by
    rw [run_callFunc_extern Try.func164 (by kernel_rfl) (by kernel_rfl) (by kernel_rfl) (e := Extern.SlicesOverlaps.overlaps #[44, 44] #[4]) (by kernel_rfl),
      Lib.run_overlaps_apart w 44 4 46 Try.underlying44 6 Try.sizeOf46 ⟨vb, voff, none⟩ ⟨b, off + (i + m) * 6, none⟩ m vc lb cb hvb tA tB kA kB hsa hsb hkB hfa hfe]
    rfl
  have mixed := hm
  have t0 := Try.underlying0; have a0 := Try.isAgg0; have z0 := Try.sizeOf0; have v0 := Try.zeroValue0; have u0 := run_underlying Try.underlying0
  have t3 := Try.underlying3; have a3 := Try.isAgg3; have z3 := Try.sizeOf3; have v3 := Try.zeroValue3; have u3 := run_underlying Try.underlying3
  have t4 := Try.underlying4; have a4 := Try.isAgg4; have z4 := Try.sizeOf4; have v4 := Try.zeroValue4; have u4 := run_underlying Try.underlying4
  have t24 := Try.underlying44; have a24 := Try.isAgg44; have z24 := Try.sizeOf44; have v24 := Try.zeroValue44; have u24 := run_underlying Try.underlying44
  have z25 := Try.sizeOf46
  have nt : Try.f131.ntmps = 95 := rfl
  have hz1 : ¬ ((m : Int) = 0) := by omega
  have hz2 : ¬ ((i : Int) = (n : Int)) := by omega
  have hdl : (cs.drop (i * 6)).length = (n - i) * 6 := by rw [List.length_drop, hcl]; omega
  have hw1 : IntKind.i64.wrap ((i : Int) + (m : Int)) = (i : Int) + (m : Int) := by rw [IntKind.wrap_i64]; omega
  have hb1 : (0 : Int) ≤ (i : Int) + (m : Int) := by omega
  have hin : i ≤ n := by omega
  have htn : ((i : Int) + (m : Int)).toNat = i + m := by omega
  have hb2 : ¬ (c = i + m) := by omega
  have hb3 : (i : Int) ≤ (n : Int) + (m : Int) := by omega
  have hb4 : ¬ (c = i) := by omega
  have hcp1 : ∀ ty dc sc, (Builtin.copy_ #[44, 44] ty #[.slice (some ⟨b, off + (i + m) * 6, none⟩) (n + m - (i + m)) dc, .slice (some ⟨b, off + i * 6, none⟩) (n + m - i) sc]).run Try.prog w.drew = .ok (goInt (n - i : Nat)) (w.drew.setCells b (off + (i + m) * 6) (cs.drop (i * 6))) := fun ty dc sc =>
    copy_rows w.drew _ _ ty 46 6 b (off + (i + m) * 6) (n + m - (i + m)) dc ⟨b, off + i * 6, none⟩ (n + m - i) sc (n - i) (cs.drop (i * 6)) t24 entSize (by simp only [Nat.min_def]; split <;> omega) hdl
      (fun j v hj => by rw [Addr.add_lit, Nat.add_assoc]; exact hcs (i * 6 + j) v (by rwa [List.getElem?_drop] at hj))
      (fun j hj => by rw [Nat.add_assoc]; exact hsp _ (by omega)) (fun j hj => by rw [Nat.add_assoc]; exact hfz _ (by omega)) (fun v hv => h1c v (List.mem_of_mem_drop hv))
  obtain ⟨W1, hW1⟩ : ∃ W1, W1 = w.drew.setCells b (off + (i + m) * 6) (cs.drop (i * 6)) := ⟨_, rfl⟩
  have hsp1 : ∀ k, k < (n + m) * 6 → (W1.cell? ⟨b, off + k, none⟩).isSome = true := fun k hk => by
    rw [hW1]
    exact isSome_setCells b _ _ _ (fun j hj => by rw [Nat.add_assoc]; exact hsp _ (by omega)) _ (hsp k hk)
  have hcp2 : ∀ (W : World), (∀ x, W.cell? x = W1.cell? x) → (∀ x, W.frozen? x = W1.frozen? x) → ∀ ty dc, (Builtin.copy_ #[44, 44] ty #[.slice (some ⟨b, off + i * 6, none⟩) (n + m - i) dc, .slice (some ⟨vb, voff, none⟩) m vc]).run Try.prog W = .ok (goInt m) (W.setCells b (off + i * 6) vs) := fun W hWc hWf ty dc =>
    copy_rows W _ _ ty 46 6 b (off + i * 6) (n + m - i) dc ⟨vb, voff, none⟩ m vc m vs t24 entSize (by simp only [Nat.min_def]; split <;> omega) hvl
      (fun j v hj => by
        rw [Addr.add_lit, hWc, hW1, World.cell?_setCells_out b _ _ _ _ (fun h _ => absurd h hvb)]
        exact hvs j v hj)
      (fun j hj => by rw [hWc, Nat.add_assoc]; exact hsp1 _ (by omega)) (fun j hj => by rw [hWf, hW1, World.frozen?_setCells, Nat.add_assoc]; exact hfz _ (by omega)) h1v
  rw [← hW1] at hcp1
  go_enter Try.func131, nt
  go_wp2_with (simp only [hov])
  go_region_law_o (refine step_copy_runI rfl _ _ 44 44 rfl _ _ (by simp [Act.eval, Act.put]) (by simp [Act.eval, Act.put]) (hcp1 _ _ _) ?_)
  go_wp2_with (at_builtin; refine wpList_copy_runI _ rfl _ _ 44 44 rfl _ _ rfl rfl (hcp2 _ (fun _ => rfl) (fun _ => rfl) _ _) ?_)
  go_ret
  first | exact ⟨rfl, rfl⟩ | exact ⟨rfl, by rw [hW1]⟩
end Go.Proofs.P6
end
section
set_option linter.unusedVariables false
set_option linter.unusedSimpArgs false
namespace Go.Proofs.P6
open Go.Lib Go.RowKit Go.Ex
set_option maxHeartbeats 4000000 in
set_option maxRecDepth 100000 in
theorem insert_end (base : Option Addr) (n c vb voff m vc : Nat) (v' : Value) (w w1 : World) (hm0 : 0 < m) (hnc : n ≤ c) (hn63 : n + m ≤ 9223372036854775807) (hnil : base = none → n = 0 ∧ c = 0)
    (hrun : ∀ ty, (Builtin.append_ #[44, 44] ty #[.slice base n c, .slice (some ⟨vb, voff, none⟩) m vc]).run Try.prog w = .ok v' w1) :
    Calls Try.prog 131 #[.slice base n c, .int .i64 n, .slice (some ⟨vb, voff, none⟩) m vc] w fun e w' => e = .returned v' ∧ w' = w1 := by
  have mixed := hm
  have t0 := Try.underlying0; have a0 := Try.isAgg0; have z0 := Try.sizeOf0; have v0 := Try.zeroValue0; have u0 := run_underlying Try.underlying0
  have t3 := Try.underlying3; have a3 := Try.isAgg3; have z3 := Try.sizeOf3; have v3 := Try.zeroValue3; have u3 := run_underlying Try.underlying3
  have t4 := Try.underlying4; have a4 := Try.isAgg4; have z4 := Try.sizeOf4; have v4 := Try.zeroValue4; have u4 := run_underlying Try.underlying4
  have t24 := Try.underlying44; have a24 := Try.isAgg44; have z24 := Try.sizeOf44; have v24 := Try.zeroValue44; have u24 := run_underlying Try.underlying44
  have z25 := Try.sizeOf46
  have nt : Try.f131.ntmps = 95 := rfl
  have hz1 : ¬ ((m : Int) = 0) := by omega
  go_enter Try.func131, nt
  cases base with
  | none =>
    obtain ⟨rfl, rfl⟩ := hnil rfl
    go_wp2_with (at_builtin; refine Lib.wpList_append_run _ rfl _ _ _ _ rfl _ _ rfl rfl _ _ (hrun _) ?_)
    go_ret
    exact ⟨rfl, rfl⟩
  | some a =>
    obtain ⟨ab, ao, asp⟩ := a
    go_wp2_with (at_builtin; refine Lib.wpList_append_run _ rfl _ _ _ _ rfl _ _ rfl rfl _ _ (hrun _) ?_)
    all_goals (go_ret; exact ⟨rfl, rfl⟩)
set_option maxHeartbeats 4000000 in
set_option maxRecDepth 100000 in
theorem insert_grow (i0 : TypeInfo) (z : Value) (hi0 : Try.prog.info? 46 = some i0) (hz0 : i0.zero = some z) (hzs : i0.size = 6) (hzb : i0.bytes = 72) (hzc : z.cells.size = 6)
    (b off n c i vb voff m vc : Nat) (cs vs : List Value) (w : World) (hi : i < n) (hm0 : 0 < m) (hnc : n ≤ c) (hroom : c < n + m) (hbig : (n + m) * 72 ≤ 140737488355328)
    (hcl : cs.length = n * 6) (hvl : vs.length = m * 6)
    (hcs : ∀ j v, cs[j]? = some v → w.cell? ⟨b, off + j, none⟩ = some v)
    (hvs : ∀ j v, vs[j]? = some v → w.cell? ⟨vb, voff + j, none⟩ = some v) (h1c : ∀ v ∈ cs, v.oneCell' = true) (h1v : ∀ v ∈ vs, v.oneCell' = true) :
    Calls Try.prog 131 #[.slice (some ⟨b, off, none⟩) n c, .int .i64 i, .slice (some ⟨vb, voff, none⟩) m vc] w fun e w' =>
      e = .returned (.slice (some ⟨w.heap.size, 0, none⟩) (n + m) (grownCap w (n + m) c 46)) ∧
      w' = (((w.alloc (.cells ((cs.take (i * 6)).toArray ++ Builtin.zeroCells z.cells (n + m - i) ++ Builtin.zeroCells z.cells (grownCap w (n + m) c 46 - (n + m))) 46)).drew.setCells w.heap.size (i * 6) vs).drew).setCells w.heap.size ((i + m) * 6) (cs.drop (i * 6)) := by
  have mixed := hm
  have t0 := Try.underlying0; have a0 := Try.isAgg0; have z0 := Try.sizeOf0; have v0 := Try.zeroValue0; have u0 := run_underlying Try.underlying0
  have t3 := Try.underlying3; have a3 := Try.isAgg3; have z3 := Try.sizeOf3; have v3 := Try.zeroValue3; have u3 := run_underlying Try.underlying3
  have t4 := Try.underlying4; have a4 := Try.isAgg4; have z4 := Try.sizeOf4; have v4 := Try.zeroValue4; have u4 := run_underlying Try.underlying4
  have t24 := Try.underlying44; have a24 := Try.isAgg44; have z24 := Try.sizeOf44; have v24 := Try.zeroValue44; have u24 := run_underlying Try.underlying44
  have z25 := Try.sizeOf46
  have nt : Try.f131.ntmps = 95 := rfl
  have hz1 : ¬ ((m : Int) = 0) := by omega
  have hz2 : ¬ ((i : Int) = (n : Int)) := by omega
  have hz3 : (c : Int) < (n : Int) + (m : Int) := by omega
  have hbw : b < w.heap.size := block_lt_of_cell (hcs 0 _ (List.getElem?_eq_getElem (by omega)))
  have hvw : vb < w.heap.size := block_lt_of_cell (hvs 0 _ (List.getElem?_eq_getElem (by omega)))
  have hkk : (n : Int) + (m : Int) - (i : Int) = ((n + m - i : Nat) : Int) := by omega
  have hik : i + (n + m - i) = n + m := by omega
  have hold : (Builtin.firstCells i0.size i (.slice (some ⟨b, off, none⟩) i c)).run Try.prog w.drew = .ok (cs.take (i * 6)).toArray w.drew := by
    rw [hzs]
    exact run_firstCells_some w.drew 6 i ⟨b, off, none⟩ i c (cs.take (i * 6)) (by rw [List.length_take]; omega) (fun j v hj => by
      rw [Addr.add_lit]
      rw [List.getElem?_take] at hj
      split at hj
      · exact hcs j v hj
      · cases hj)
  have hrz : ∀ ty, (Builtin.append_ #[44, 3] ty #[.slice (some ⟨b, off, none⟩) i c, .int .i64 ((n : Int) + (m : Int) - (i : Int))]).run Try.prog w =
      .ok (.slice (some ⟨w.heap.size, 0, none⟩) (n + m) (grownCap w (n + m) c 46)) (w.drew.alloc (.cells ((cs.take (i * 6)).toArray ++ Builtin.zeroCells z.cells (n + m - i) ++ Builtin.zeroCells z.cells (grownCap w (n + m) c 46 - (n + m))) 46)) := fun ty => by
    have h := Lib.run_append_grow_zeros w 44 3 ty 46 i0 z .i64 .i64 t24 t3 hi0 hz0 (some ⟨b, off, none⟩) i c (cs.take (i * 6)) hold (n + m - i) (by omega) (by omega) (by omega) (by omega) (by rw [hzb]; omega) (by rw [hzb, hik]; exact growslice_fits hroom hbig)
    rw [hik] at h
    rw [hkk]
    exact h
  obtain ⟨G, hG⟩ : ∃ G, G = grownCap w (n + m) c 46 := ⟨_, rfl⟩
  obtain ⟨ROW, hROW⟩ : ∃ ROW : Array Value, ROW = (cs.take (i * 6)).toArray ++ Builtin.zeroCells z.cells (n + m - i) ++ Builtin.zeroCells z.cells (G - (n + m)) := ⟨_, rfl⟩
  rw [← hG] at hrz ⊢
  rw [← hROW] at hrz ⊢
  have hGn : n + m ≤ G := by rw [hG]; exact grownCap_ge w _ _ _
  have hRl : (n + m) * 6 ≤ ROW.size := by
    rw [hROW]
    rw [Array.size_append, Array.size_append, size_zeroCells, size_zeroCells, hzc]
    simp only [List.size_toArray, List.length_take]
    omega
  obtain ⟨W1, hW1⟩ : ∃ W1, W1 = w.drew.alloc (.cells ROW 46) := ⟨_, rfl⟩
  rw [← hW1] at hrz
  have hN : ∀ j, j < (n + m) * 6 → (W1.cell? ⟨w.heap.size, j, none⟩).isSome = true := fun j hj => by
    rw [hW1, World.cell?_alloc_at (w := w.drew) ROW _ w.heap.size j rfl, Array.getElem?_eq_getElem (by omega)]; rfl
  have hNf : ∀ j, W1.frozen? ⟨w.heap.size, j, none⟩ = false := fun j => by rw [hW1]; exact World.frozen?_alloc_at (w := w.drew) ROW _ w.heap.size j rfl
  have hOb : ∀ j v, w.cell? ⟨b, j, none⟩ = some v → W1.cell? ⟨b, j, none⟩ = some v := fun j v h => by rw [hW1, World.cell?_alloc_past (w := w.drew) _ b j hbw]; exact h
  have hOv : ∀ j v, w.cell? ⟨vb, j, none⟩ = some v → W1.cell? ⟨vb, j, none⟩ = some v := fun j v h => by rw [hW1, World.cell?_alloc_past (w := w.drew) _ vb j hvw]; exact h
  have hcpA : ∀ (W : World), (∀ x, W.cell? x = W1.cell? x) → (∀ x, W.frozen? x = W1.frozen? x) → ∀ ty dc, (Builtin.copy_ #[44, 44] ty #[.slice (some ⟨w.heap.size, i * 6, none⟩) (n + m - i) dc, .slice (some ⟨vb, voff, none⟩) m vc]).run Try.prog W = .ok (goInt m) (W.setCells w.heap.size (i * 6) vs) := fun W hWc hWf ty dc =>
    copy_rows W _ _ ty 46 6 w.heap.size (i * 6) (n + m - i) dc ⟨vb, voff, none⟩ m vc m vs t24 entSize (by simp only [Nat.min_def]; split <;> omega) hvl
      (fun j v hj => by rw [Addr.add_lit, hWc]; exact hOv _ v (hvs j v hj))
      (fun j hj => by rw [hWc]; exact hN _ (by omega)) (fun j hj => by rw [hWf]; exact hNf _) h1v
  have hG63 : G ≤ 9223372036854775807 := by
    have := grownCap_le_maxLen w (n + m) c 46 (by unfold maxLen; omega)
    rw [← hG] at this
    unfold maxLen at this
    omega
  have hGi : ¬ (G = i) := by omega
  have hGim : ¬ (G = i + m) := by omega
  have hci : ¬ (c = i) := by omega
  have hbN : b ≠ w.heap.size := by omega
  have hdl : (cs.drop (i * 6)).length = (n - i) * 6 := by rw [List.length_drop, hcl]; omega
  have hcpB : ∀ (W : World), (∀ x, W.cell? x = (W1.setCells w.heap.size (i * 6) vs).cell? x) → (∀ x, W.frozen? x = (W1.setCells w.heap.size (i * 6) vs).frozen? x) → ∀ ty dc sc, (Builtin.copy_ #[44, 44] ty #[.slice (some ⟨w.heap.size, (i + m) * 6, none⟩) (n + m - (i + m)) dc, .slice (some ⟨b, off + i * 6, none⟩) (n - i) sc]).run Try.prog W = .ok (goInt (n - i : Nat)) (W.setCells w.heap.size ((i + m) * 6) (cs.drop (i * 6))) := fun W hWc hWf ty dc sc =>
    copy_rows W _ _ ty 46 6 w.heap.size ((i + m) * 6) (n + m - (i + m)) dc ⟨b, off + i * 6, none⟩ (n - i) sc (n - i) (cs.drop (i * 6)) t24 entSize (by simp only [Nat.min_def]; split <;> omega) hdl
      (fun j v hj => by
        rw [Addr.add_lit, hWc, World.cell?_setCells_out _ _ _ _ _ (fun h _ => absurd h hbN), Nat.add_assoc]
        exact hOb _ v (hcs (i * 6 + j) v (by rwa [List.getElem?_drop] at hj)))
      (fun j hj => by rw [hWc]; exact isSome_setCells _ _ _ _ (fun t ht => hN _ (by omega)) _ (hN _ (by omega)))
      (fun j hj => by rw [hWf, World.frozen?_setCells]; exact hNf _) (fun v hv => h1c v (List.mem_of_mem_drop hv))
  subst hW1
  have hE1 : ∀ x, ((w.alloc (.cells ROW 46)).drew).cell? x = (w.drew.alloc (.cells ROW 46)).cell? x := fun x => rfl
  have hE2 : ∀ x, ((w.alloc (.cells ROW 46)).drew).frozen? x = (w.drew.alloc (.cells ROW 46)).frozen? x := fun x => rfl
  have hF1 : ∀ x, (((w.alloc (.cells ROW 46)).drew.setCells w.heap.size (i * 6) vs).drew).cell? x = ((w.drew.alloc (.cells ROW 46)).setCells w.heap.size (i * 6) vs).cell? x := fun x => rfl
  have hF2 : ∀ x, (((w.alloc (.cells ROW 46)).drew.setCells w.heap.size (i * 6) vs).drew).frozen? x = ((w.drew.alloc (.cells ROW 46)).setCells w.heap.size (i * 6) vs).frozen? x := fun x => rfl
  have hw1 : IntKind.i64.wrap ((i : Int) + (m : Int)) = (i : Int) + (m : Int) := by rw [IntKind.wrap_i64]; omega
  have hb1 : (0 : Int) ≤ (i : Int) + (m : Int) := by omega
  have hin : i ≤ n := by omega
  have htn : ((i : Int) + (m : Int)).toNat = i + m := by omega
  have hb3 : (i : Int) ≤ (n : Int) := by omega
  clear hkk hik hold hROW hG hRl
  go_enter Try.func131, nt
  go_wp2_with (first
    | (at_builtin; refine Lib.wpList_append_run _ rfl _ _ _ _ rfl _ _ rfl rfl _ _ (hrz _) ?_)
    | (at_builtin; refine wpList_copy_runI _ rfl _ _ 44 44 rfl _ _ rfl rfl (hcpA _ hE1 hE2 _ _) ?_)
    | (at_builtin; refine wpList_copy_runI _ rfl _ _ 44 44 rfl _ _ rfl rfl (hcpB _ (fun _ => rfl) (fun _ => rfl) _ _ _) ?_))
  go_region_law_o (refine step_copy_runI rfl _ _ 44 44 rfl (.slice (some ⟨w.heap.size, (i + m) * 6, none⟩) (n + m - (i + m)) (G - (i + m))) (.slice (some ⟨b, off + i * 6, none⟩) (n - i) (c - i)) (by simp [Act.eval, Act.put]) (by simp [Act.eval, Act.put]) (hcpB _ hF1 hF2 3 (G - (i + m)) (c - i)) ?_)
  go_wp2
  go_ret
  exact ⟨rfl, rfl⟩
end Go.Proofs.P6
end
section
set_option linter.unusedVariables false
set_option linter.unusedSimpArgs false
set_option maxRecDepth 10000
set_option maxHeartbeats 4000000
namespace Go.Proofs.P6
open Go.Lib Go.RowKit Go.Ex
theorem reps3 {φ : Nat → Nat × Nat} {h : Hp} {S : Nat → Prop} {w : World} {a b c : V} {vs : Array Value} (hv : Reps φ h S w [a, b, c] vs) : ∃ x y z, vs = #[x, y, z] ∧ Rep φ h S w a x ∧ Rep φ h S w b y ∧ Rep φ h S w c z := by
  obtain ⟨h1, h2⟩ := hv
  obtain ⟨x, y, z, rfl⟩ : ∃ x y z, vs = #[x, y, z] := by
    obtain ⟨l⟩ := vs
    match l, h1 with
    | [x, y, z], _ => exact ⟨x, y, z, rfl⟩
  exact ⟨x, y, z, rfl, h2 0 _ x rfl rfl, h2 1 _ y rfl rfl, h2 2 _ z rfl rfl⟩
/-- What lies at a block of entries, and what a slice of it is. -/
theorem own_row {P : Program} {w0 w : World} {φ : Nat → Nat × Nat} {S : Nat → Prop} {h : Hp} (hR : Rel P w0 φ S h w) {id ver n : Nat} {cs : List V} {cap : Option Nat} {x : Value} (hb : h id = some ⟨ver, 6, cs, none⟩) (hr : Rep φ h S w (.sl id ver 0 n cap) x) :
    ∃ c oo arr el fz, x = .slice (some ⟨(φ id).1, oo, none⟩) n c ∧ (0 < c → oo = (φ id).2) ∧ n ≤ c ∧ w.heap[(φ id).1]? = some (.cells arr el fz) ∧ (φ id).2 + c * 6 ≤ arr.size ∧ (φ id).2 + cs.length ≤ arr.size ∧ fz.1 = fz.2 ∧
      (∀ (i : Nat) c v, cs[i]? = some c → arr[(φ id).2 + i]? = some v → Rep φ h S w c v ∧ v.oneCell' = true) := by
  cases hr
  rename_i ad c hr
  obtain ⟨b1, q1, q2, q3⟩ := hr
  rw [hb] at q1
  injection q1 with q1
  subst q1
  obtain ⟨oo, p1, p2, p3, p4, p5⟩ := q3 rfl
  obtain ⟨arr, el, fz, z1, z2, z3, z4⟩ := (hR.blk _ _ hb).at_ rfl
  subst p1
  rw [szOf_at z1] at p3
  refine ⟨c, oo, arr, el, fz, rfl, by simpa using p2, p4, z1, by simpa using p3, z2, ?_, z4⟩
  rcases z3 with z3 | z3
  · exact z3
  · exact absurd z3.2 (by simp)
theorem frozen_no {w : World} {r o : Nat} {arr : Array Value} {elem : TypeId} {fz : Nat × Nat} (hw : w.heap[r]? = some (.cells arr elem fz)) (hz : fz.1 = fz.2) : w.frozen? ⟨r, o, none⟩ = false := by
  obtain ⟨lo, hi⟩ := fz
  simp only at hz
  subst hz
  simp only [World.frozen?, hw]
  rw [Bool.and_eq_false_iff]
  by_cases hlo : lo ≤ o
  · right; simp; omega
  · left; simpa using hlo
theorem ins_cells {l : List Entry} {x : Entry} {i o o0 o1 : Nat} (hi : i ≤ l.length) {arr arr' arv : Array Value} {R : V → Value → Prop}
    (hold : ∀ (j : Nat) c v, (fl entCd l)[j]? = some c → arr[o0 + j]? = some v → R c v) (hx : ∀ (j : Nat) c v, (entV x)[j]? = some c → arv[o1 + j]? = some v → R c v)
    (h1 : ∀ j, j < i * 6 → arr'[o + j]? = arr[o0 + j]?) (h2 : ∀ j, j < 6 → arr'[o + i * 6 + j]? = arv[o1 + j]?) (h3 : ∀ j, i * 6 ≤ j → j < l.length * 6 → arr'[o + 6 + j]? = arr[o0 + j]?)
    (j : Nat) (c : V) (v : Value) (hc : (fl entCd (l.take i ++ [x] ++ l.drop i))[j]? = some c) (hv : arr'[o + j]? = some v) : R c v := by
  have hfl : (fl entCd l).length = l.length * 6 := flat_len l
  have hev : (entV x).length = 6 := rfl
  rw [fl_append, fl_append, show fl entCd [x] = entV x by simp [fl_cons, fl_nil, ent_cells], fl_takeN hi, fl_dropN hi, show (entCd.sz) = 6 from rfl, List.append_assoc] at hc
  have htl : ((fl entCd l).take (i * 6)).length = i * 6 := by rw [List.length_take]; omega
  by_cases q1 : j < i * 6
  · rw [List.getElem?_append_left (by omega), List.getElem?_take, if_pos q1] at hc
    rw [h1 j q1] at hv
    exact hold j c v hc hv
  rw [List.getElem?_append_right (by omega), htl] at hc
  by_cases q2 : j - i * 6 < 6
  · rw [List.getElem?_append_left (by omega)] at hc
    have := h2 (j - i * 6) q2
    rw [show o + i * 6 + (j - i * 6) = o + j by omega] at this
    rw [this] at hv
    exact hx _ c v hc hv
  · rw [List.getElem?_append_right (by omega), hev, List.getElem?_drop] at hc
    have hlt := (List.getElem?_eq_some_iff.1 hc).1
    have := h3 (i * 6 + (j - i * 6 - 6)) (by omega) (by omega)
    rw [show o + 6 + (i * 6 + (j - i * 6 - 6)) = o + j by omega] at this
    rw [this] at hv
    exact hold _ c v hc hv
theorem insert_ok (l : List Entry) (x : Entry) (i : Nat) (hi : i ≤ l.length) (hl0 : 0 < l.length) (hl : l.length ≤ 5000) {h : Hp} {nx id ver vid vver : Nat} (hb : h id = some ⟨ver, 6, fl entCd l, none⟩) (hv : h vid = some ⟨vver, 6, entV x, none⟩) (hne : id ≠ vid) (hlt : id < nx) :
    SOk Try.prog 131 [.sl id ver 0 l.length none, .int .i64 i, .sl vid vver 0 1 (some 1)] h nx (.sl id (ver + 1) 0 (l.length + 1) none) (upd h id (some ⟨ver + 1, 6, fl entCd (l.take i ++ [x] ++ l.drop i), none⟩)) nx := by
  intro w0 w φ S vs hf hR hvs
  obtain ⟨a, b, c3, rfl, ha, hb3, hc3⟩ := reps3 hvs
  cases hb3
  obtain ⟨c, oo, arr, el, fz, rfl, p2, p4, z1, p3, z2, z3, z4⟩ := own_row hR hb ha
  obtain ⟨cv, ov, arv, elv, fv, rfl, y2, y4, x1, y3, x2, x3, x4⟩ := own_row hR hv hc3
  have e1 := p2 (by omega)
  have e2 := y2 (by omega)
  subst e1
  subst e2
  have hfl : (fl entCd l).length = l.length * 6 := flat_len l
  have hev : (entV x).length = 6 := rfl
  rw [hfl] at z2
  rw [hev] at x2
  have hblk : (φ vid).1 ≠ (φ id).1 := fun q => hne (hR.inj id vid _ _ hb hv q.symm)
  have t24 := Try.underlying44
  obtain ⟨i0, z, hi0, hz0, hzs, hzb, hzc⟩ := entInfo
  have fin : ∀ (w' : World) (g o c' : Nat) (arr' : Array Value) (el' : TypeId) (fz' : Nat × Nat), (∀ k, k < w.heap.size → k ≠ (φ id).1 → w'.heap[k]? = w.heap[k]?) → w'.os = w.os → w'.tape = w.tape → w'.output = w.output → w.heap.size ≤ w'.heap.size → (w.heap.size ≤ g ∨ g = (φ id).1) →
      w'.heap[g]? = some (.cells arr' el' fz') → fz'.1 = fz'.2 → l.length + 1 ≤ c' → o + c' * 6 ≤ arr'.size → (∀ j, j < i * 6 → arr'[o + j]? = arr[(φ id).2 + j]?) → (∀ j, j < 6 → arr'[o + i * 6 + j]? = arv[(φ vid).2 + j]?) → (∀ j, i * 6 ≤ j → j < l.length * 6 → arr'[o + 6 + j]? = arr[(φ id).2 + j]?) →
      ∃ y φ' S', (.returned (.slice (some ⟨g, o, none⟩) (l.length + 1) c') : Ending) = .returned y ∧ Rel Try.prog w0 φ' S' (upd h id (some ⟨ver + 1, 6, fl entCd (l.take i ++ [x] ++ l.drop i), none⟩)) w' ∧
        Ext φ h S w φ' (upd h id (some ⟨ver + 1, 6, fl entCd (l.take i ++ [x] ++ l.drop i), none⟩)) S' w' ∧ (∀ r, S' r → r < w0.heap.size → S r) ∧ (∀ j, nx ≤ j → (upd h id (some ⟨ver + 1, 6, fl entCd (l.take i ++ [x] ++ l.drop i), none⟩)) j = none) ∧
        Rep φ' (upd h id (some ⟨ver + 1, 6, fl entCd (l.take i ++ [x] ++ l.drop i), none⟩)) S' w' (.sl id (ver + 1) 0 (l.length + 1) none) y := by
    intro w' g o c' arr' el' fz' ho hos htp hout hsz hg hw hfz hc1 hc2 r1 r2 r3
    have hlen : (fl entCd (l.take i ++ [x] ++ l.drop i)).length = (l.length + 1) * 6 := by
      rw [show (fl entCd (l.take i ++ [x] ++ l.drop i)).length = (l.take i ++ [x] ++ l.drop i).length * 6 from flat_len _]
      simp only [List.length_append, List.length_take, List.length_singleton, List.length_drop]
      omega
    obtain ⟨g1, g2⟩ := hR.move (o := o) (b' := ⟨ver + 1, 6, fl entCd (l.take i ++ [x] ++ l.drop i), none⟩) hb (by simp) rfl ho hos htp hout hsz hg hw (by simp only [hlen]; omega) (.inl hfz)
      (fun j c v hc hv => ins_cells (R := fun c v => Rep φ h S w c v ∧ v.oneCell' = true) hi z4 x4 r1 r2 r3 j c v hc hv)
    refine ⟨_, _, S, rfl, g1, g2, fun _ h _ => h, fun j hj => ?_, .sl _ _ _ _ _ _ _ ⟨_, upd_self _ _ _, Nat.le_refl _, fun _ => ⟨o, by rw [upd_self], fun _ => by rw [upd_self]; rfl, ?_, hc1, fun _ h => by cases h⟩⟩⟩
    · simp only [upd]
      rw [if_neg (by omega)]
      exact hf j hj
    · rw [upd_self, szOf_at hw]
      simp only
      omega
  obtain ⟨cs, hcs⟩ : ∃ cs, cs = (arr.extract (φ id).2 ((φ id).2 + l.length * 6)).toList := ⟨_, rfl⟩
  obtain ⟨vv, hvv⟩ : ∃ vv, vv = (arv.extract (φ vid).2 ((φ vid).2 + 6)).toList := ⟨_, rfl⟩
  have hcl : cs.length = l.length * 6 := by rw [hcs]; simp; omega
  have hvl : vv.length = 1 * 6 := by rw [hvv]; simp; omega
  have hcg : ∀ j, j < l.length * 6 → cs[j]? = arr[(φ id).2 + j]? := fun j hj => by rw [hcs, Array.getElem?_toList, Array.getElem?_extract, if_pos (by omega)]
  have hvg : ∀ j, j < 6 → vv[j]? = arv[(φ vid).2 + j]? := fun j hj => by rw [hvv, Array.getElem?_toList, Array.getElem?_extract, if_pos (by omega)]
  have hca : ∀ j v, cs[j]? = some v → w.cell? ⟨(φ id).1, (φ id).2 + j, none⟩ = some v := fun j v hj => by
    have := (List.getElem?_eq_some_iff.1 hj).1
    rw [hcg j (by omega)] at hj
    rw [cell_at z1, hj]
  have hva : ∀ j v, vv[j]? = some v → w.cell? ⟨(φ vid).1, (φ vid).2 + j, none⟩ = some v := fun j v hj => by
    have := (List.getElem?_eq_some_iff.1 hj).1
    rw [hvg j (by omega)] at hj
    rw [cell_at x1, hj]
  have h1c : ∀ v ∈ cs, v.oneCell' = true := fun v hm' => by
    obtain ⟨j, hj⟩ := List.getElem?_of_mem hm'
    have hjl := (List.getElem?_eq_some_iff.1 hj).1
    rw [hcg j (by omega)] at hj
    exact (z4 j _ v (List.getElem?_eq_getElem (by omega)) hj).2
  have h1v : ∀ v ∈ vv, v.oneCell' = true := fun v hm' => by
    obtain ⟨j, hj⟩ := List.getElem?_of_mem hm'
    have hjl := (List.getElem?_eq_some_iff.1 hj).1
    rw [hvg j (by omega)] at hj
    exact (x4 j _ v (List.getElem?_eq_getElem (by omega)) hj).2
  have fls : ∀ (W : World), W.heap = w.heap → (Builtin.firstCells i0.size 1 (.slice (some ⟨(φ vid).1, (φ vid).2, none⟩) 1 cv)).run Try.prog W = .ok vv.toArray W := fun W hW => by
    rw [hzs]
    refine run_firstCells_some W 6 1 ⟨(φ vid).1, (φ vid).2, none⟩ 1 cv vv hvl (fun j v hj => ?_)
    rw [Addr.add_lit]
    have := hva j v hj
    simp only [World.cell?, hW] at this ⊢
    exact this
  clear hcs hvv
  by_cases hroom : l.length + 1 ≤ c
  · by_cases hil : i < l.length
    · -- in place
      refine (insert_shift (φ id).1 (φ id).2 l.length c i (φ vid).1 (φ vid).2 1 cv cs vv w hil (by decide) hroom (by omega) hblk hcl hvl hca (fun j hj => ?_) (fun j hj => frozen_no z1 z3) hva h1c h1v elv el arv.size arr.size ?_ ?_ (by omega) (frozen_no x1 x3) (frozen_no x1 x3)).mono fun e w' he => ?_
      · rw [cell_at z1, Array.getElem?_eq_getElem (by omega)]; rfl
      · simp [World.shape?, x1]
      · simp [World.shape?, z1]
      · obtain ⟨rfl, rfl⟩ := he
        have hA := setCells_self (cs.drop (i * 6)) w.drew (φ id).1 ((φ id).2 + (i + 1) * 6) arr el fz z1
        have hB := setCells_self vv _ (φ id).1 ((φ id).2 + i * 6) _ el fz hA
        obtain ⟨s1, s2, s3, s4⟩ := setCells_same (cs.drop (i * 6)) w.drew (φ id).1 ((φ id).2 + (i + 1) * 6)
        obtain ⟨u1, u2, u3, u4⟩ := setCells_same vv (w.drew.setCells (φ id).1 ((φ id).2 + (i + 1) * 6) (cs.drop (i * 6))) (φ id).1 ((φ id).2 + i * 6)
        have hdl : (cs.drop (i * 6)).length = (l.length - i) * 6 := by rw [List.length_drop, hcl]; omega
        have hsz1 := putArr_size (cs.drop (i * 6)) arr ((φ id).2 + (i + 1) * 6)
        have g1 := fun k => putArr_get (cs.drop (i * 6)) arr ((φ id).2 + (i + 1) * 6) k (by omega)
        have g2 := fun k => putArr_get vv (putArr arr ((φ id).2 + (i + 1) * 6) (cs.drop (i * 6))) ((φ id).2 + i * 6) k (by omega)
        refine fin _ (φ id).1 (φ id).2 c _ el fz (fun k _ hk => ?_) (u2.trans s2) (u3.trans s3) (u4.trans s4) (by rw [u1, s1]; exact Nat.le_refl _) (.inr rfl) hB z3 hroom (by rw [putArr_size, putArr_size]; exact p3) (fun j hj => ?_) (fun j hj => ?_) (fun j h1 h2 => ?_)
        · rw [setCells_else _ _ _ _ _ hk, setCells_else _ _ _ _ _ hk]; rfl
        · rw [g2, if_neg (by omega), g1, if_neg (by omega)]
        · rw [g2, if_pos (by omega), show (φ id).2 + i * 6 + j - ((φ id).2 + i * 6) = j by omega, hvg j hj]
        · rw [g2, if_neg (by omega), g1, if_pos (by omega), List.getElem?_drop, show i * 6 + ((φ id).2 + 6 + j - ((φ id).2 + (i + 1) * 6)) = j by omega, hcg j h2]
    · have hil' : i = l.length := by omega
      subst hil'
      have hrun := fun ty => append_room (P := Try.prog) (w := w) (A := #[44, 44]) (ty := ty) rfl rfl t24 t24 (by intro k; simp) hi0 (φ id).1 (φ id).2 l.length c 1 (.slice (some ⟨(φ vid).1, (φ vid).2, none⟩) 1 cv) vv.toArray (by simp [Builtin.lenOf]) (fls w rfl) hroom z1 (q := False) (.inl z3) (by rw [hzs]; simp; omega)
        (fun j v hj => h1v v (List.mem_of_getElem? (by simpa using hj)))
      refine (insert_end (some ⟨(φ id).1, (φ id).2, none⟩) l.length c (φ vid).1 (φ vid).2 1 cv _ w _ (by decide) (by omega) (by omega) (fun h => by cases h) hrun).mono fun e w' he => ?_
      · obtain ⟨rfl, rfl⟩ := he
        simp only [List.toList_toArray, hzs]
        have hA := setCells_self vv w (φ id).1 ((φ id).2 + l.length * 6) arr el fz z1
        obtain ⟨s1, s2, s3, s4⟩ := setCells_same vv w (φ id).1 ((φ id).2 + l.length * 6)
        have g1 := fun k => putArr_get vv arr ((φ id).2 + l.length * 6) k (by omega)
        refine fin _ (φ id).1 (φ id).2 c _ el fz (fun k _ hk => setCells_else _ _ _ _ _ hk) s2 s3 s4 (by rw [s1]; exact Nat.le_refl _) (.inr rfl) hA z3 hroom (by rw [putArr_size]; exact p3) (fun j hj => ?_) (fun j hj => ?_) (fun j h1 h2 => by omega)
        · rw [g1, if_neg (by omega)]
        · rw [g1, if_pos (by omega), show (φ id).2 + l.length * 6 + j - ((φ id).2 + l.length * 6) = j by omega, hvg j hj]
  · have hge := grownCap_ge w (l.length + 1) c 46
    by_cases hil : i < l.length
    · refine (insert_grow i0 z hi0 hz0 hzs hzb hzc (φ id).1 (φ id).2 l.length c i (φ vid).1 (φ vid).2 1 cv cs vv w hil (by decide) p4 (by omega) (by omega) hcl hvl hca hva h1c h1v).mono fun e w' he => ?_
      obtain ⟨rfl, rfl⟩ := he
      generalize grownCap w (l.length + 1) c 46 = G at *
      obtain ⟨ROW, hROW⟩ : ∃ ROW : Array Value, ROW = (cs.take (i * 6)).toArray ++ Builtin.zeroCells z.cells (l.length + 1 - i) ++ Builtin.zeroCells z.cells (G - (l.length + 1)) := ⟨_, rfl⟩
      rw [← hROW]
      have htl : (cs.take (i * 6)).length = i * 6 := by rw [List.length_take]; omega
      have hRs : ROW.size = G * 6 := by
        rw [hROW, Array.size_append, Array.size_append, size_zeroCells, size_zeroCells, hzc]
        simp only [List.size_toArray, htl]
        omega
      have hRg : ∀ j, j < i * 6 → ROW[j]? = arr[(φ id).2 + j]? := fun j hj => by
        rw [hROW, Array.append_assoc, Array.getElem?_append_left (by simp only [List.size_toArray]; omega), List.getElem?_toArray, List.getElem?_take, if_pos hj, hcg j (by omega)]
      clear hROW
      have hat : ((w.alloc (.cells ROW 46)).drew).heap[w.heap.size]? = some (.cells ROW 46) := alloc_at _
      have hA := setCells_self vv _ w.heap.size (i * 6) ROW 46 (0, 0) hat
      have hB := setCells_self (cs.drop (i * 6)) (((w.alloc (.cells ROW 46)).drew.setCells w.heap.size (i * 6) vv).drew) w.heap.size ((i + 1) * 6) _ 46 (0, 0) hA
      obtain ⟨s1, s2, s3, s4⟩ := setCells_same vv ((w.alloc (.cells ROW 46)).drew) w.heap.size (i * 6)
      obtain ⟨u1, u2, u3, u4⟩ := setCells_same (cs.drop (i * 6)) (((w.alloc (.cells ROW 46)).drew.setCells w.heap.size (i * 6) vv).drew) w.heap.size ((i + 1) * 6)
      have hdl : (cs.drop (i * 6)).length = (l.length - i) * 6 := by rw [List.length_drop, hcl]; omega
      have hsz1 := putArr_size vv ROW (i * 6)
      have g1 := fun k => putArr_get vv ROW (i * 6) k (by omega)
      have g2 := fun k => putArr_get (cs.drop (i * 6)) (putArr ROW (i * 6) vv) ((i + 1) * 6) k (by omega)
      have hsz : (w.alloc (.cells ROW 46)).heap.size = w.heap.size + 1 := by
        show (w.heap.push _).size = _
        simp
      refine fin _ w.heap.size 0 G _ _ (0, 0) (fun k hk1 hk => ?_) (u2.trans s2) (u3.trans s3) (u4.trans s4) (by rw [u1]; show _ ≤ (World.setCells _ _ _ _).heap.size; rw [s1]; show _ ≤ (w.alloc _).heap.size; omega) (.inl (Nat.le_refl _)) hB rfl hge (by rw [putArr_size, putArr_size, hRs]; omega) (fun j hj => ?_) (fun j hj => ?_) (fun j h1 h2 => ?_)
      · rw [setCells_else _ _ _ _ _ (by omega)]
        show (World.setCells _ _ _ _).heap[k]? = _
        rw [setCells_else _ _ _ _ _ (by omega)]
        show (w.heap.push _)[k]? = _
        simp [Array.getElem?_push, Nat.ne_of_lt hk1]
      · rw [g2, if_neg (by omega), g1, if_neg (by omega), Nat.zero_add, hRg j hj]
      · rw [g2, if_neg (by omega), g1, if_pos (by omega), show 0 + i * 6 + j - i * 6 = j by omega, hvg j hj]
      · rw [g2, if_pos (by omega), List.getElem?_drop, show i * 6 + (0 + 6 + j - (i + 1) * 6) = j by omega, hcg j h2]
    · have hil' : i = l.length := by omega
      subst hil'
      have hfo : (Builtin.firstCells i0.size l.length (.slice (some ⟨(φ id).1, (φ id).2, none⟩) l.length c)).run Try.prog w.drew = .ok cs.toArray w.drew := by
        rw [hzs]
        exact run_firstCells_some w.drew 6 l.length ⟨(φ id).1, (φ id).2, none⟩ l.length c cs hcl (fun j v hj => by rw [Addr.add_lit]; exact hca j v hj)
      have hrun := fun ty => append_grow (P := Try.prog) (w := w) (A := #[44, 44]) (ty := ty) rfl rfl t24 t24 (by intro k; simp) hi0 hz0 (some ⟨(φ id).1, (φ id).2, none⟩) l.length c 1 (.slice (some ⟨(φ vid).1, (φ vid).2, none⟩) 1 cv) cs.toArray vv.toArray (by simp [Builtin.lenOf]) hfo (fls w.drew rfl) (by omega) (by omega) (growslice_fits (by omega) (by rw [hzb]; omega)) (by omega)
      refine (insert_end (some ⟨(φ id).1, (φ id).2, none⟩) l.length c (φ vid).1 (φ vid).2 1 cv _ w _ (by decide) (by omega) (by omega) (fun h => by cases h) hrun).mono fun e w' he => ?_
      obtain ⟨rfl, rfl⟩ := he
      generalize grownCap w (l.length + 1) c 46 = G at *
      obtain ⟨ROW, hROW⟩ : ∃ ROW : Array Value, ROW = cs.toArray ++ vv.toArray ++ Builtin.zeroCells z.cells (G - (l.length + 1)) := ⟨_, rfl⟩
      rw [← hROW]
      have hRs : ROW.size = G * 6 := by
        rw [hROW, Array.size_append, Array.size_append, size_zeroCells, hzc]
        simp only [List.size_toArray]
        omega
      have hbel := below_drew_alloc (w := w) (.cells ROW 46)
      refine fin _ w.heap.size 0 G ROW _ (0, 0) (fun k hk _ => hbel.block k hk) hbel.os hbel.tape hbel.output hbel.size (.inl (Nat.le_refl _)) (alloc_at (w := w.drew) _) rfl hge (by omega) (fun j hj => ?_) (fun j hj => ?_) (fun j h1 h2 => by omega)
      · rw [Nat.zero_add, hROW, Array.append_assoc, Array.getElem?_append_left (by simp only [List.size_toArray]; omega), List.getElem?_toArray, hcg j hj]
      · rw [Nat.zero_add, hROW, Array.getElem?_append_left (by simp only [Array.size_append, List.size_toArray]; omega), Array.getElem?_append_right (by simp only [List.size_toArray]; omega), List.size_toArray, hcl, show l.length * 6 + j - l.length * 6 = j by omega, List.getElem?_toArray, hvg j hj]
end Go.Proofs.P6
end
section
set_option linter.unusedVariables false
set_option linter.unusedSimpArgs false
namespace Go.Proofs.P6
open Go.Lib Go.RowKit Go.Ex
theorem clear_rows {P : Program} (w : World) (t e ty : TypeId) (z : Value) (k : Nat) (ht : P.underlying t = some (.slice e)) (hv : ∀ w, (zeroValue e).run P w = .ok z w) (hz : z.cells.size = k) (hk : 0 < k) (h1 : ∀ v ∈ z.cells, v.oneCell' = true) (b o n c : Nat) (hn : 0 < n)
    (hc : ∀ j, j < n * k → (w.cell? ⟨b, o + j, none⟩).isSome = true) (hf : ∀ j, j < n * k → w.frozen? ⟨b, o + j, none⟩ = false) :
    (Builtin.clear_ #[t] ty #[.slice (some ⟨b, o, none⟩) n c]).run P w = .ok (.tuple #[]) (w.setCells b o (Builtin.zeroCells z.cells n).toList) := by
  have hl : (Builtin.zeroCells z.cells n).size = n * k := by rw [size_zeroCells, hz]
  have ho : ∀ v ∈ (Builtin.zeroCells z.cells n).toList, v.oneCell' = true := by
    intro v hv'
    unfold Builtin.zeroCells at hv'
    simp only [Array.toList_map, List.mem_map] at hv'
    obtain ⟨j, _, rfl⟩ := hv'
    have hlt : j % z.cells.size < z.cells.size := Nat.mod_lt _ (by omega)
    rw [getElem!_pos z.cells _ hlt]
    exact h1 _ (Array.getElem_mem hlt)
  have hst := run_storeCells_cells (P := P) b o (Builtin.zeroCells z.cells n).toList 0 w (by simpa [hl] using hc) (by simpa [hl] using hf) ho
  simp only [Nat.add_zero] at hst
  obtain ⟨m, rfl⟩ : ∃ m, n = m + 1 := ⟨n - 1, by omega⟩
  simp [Builtin.clear_, run_underlying ht, hv, hst]
set_option maxHeartbeats 4000000 in
set_option maxRecDepth 1000000 in
theorem delete_walk (i0 : TypeInfo) (z : Value) (hi0 : Try.prog.info? 46 = some i0) (hzs : i0.size = 6) (hz0 : i0.zero = some z) (hzc : z.cells.size = 6) (hz1c : ∀ v ∈ z.cells, v.oneCell' = true)
    (blk off cap i j n : Nat) (cs : List Value) (w : World) (hij : i < j) (hj : j ≤ n) (hcap : n ≤ cap) (hn63 : n ≤ 4611686018427387904) (hcl : cs.length = n * 6)
    (hcs : ∀ t v, cs[t]? = some v → w.cell? ⟨blk, off + t, none⟩ = some v) (hfz : ∀ t, t < n * 6 → w.frozen? ⟨blk, off + t, none⟩ = false) (h1c : ∀ v ∈ cs, v.oneCell' = true) :
    Calls Try.prog 133 #[.slice (some ⟨blk, off, none⟩) n cap, .int .i64 i, .int .i64 j] w fun e w' => e = .returned (.slice (some ⟨blk, off, none⟩) (i + (n - j)) cap) ∧
      w' = (w.drew.setCells blk (off + i * 6) (cs.drop (j * 6))).setCells blk (off + (i + (n - j)) * 6) (Builtin.zeroCells z.cells (n - (i + (n - j)))).toList := by
  have mixed := hm
  have t0 := Try.underlying0; have a0 := Try.isAgg0; have z0 := Try.sizeOf0; have v0 := Try.zeroValue0; have u0 := run_underlying Try.underlying0
  have t3 := Try.underlying3; have a3 := Try.isAgg3; have z3 := Try.sizeOf3; have v3 := Try.zeroValue3; have u3 := run_underlying Try.underlying3
  have t4 := Try.underlying4; have a4 := Try.isAgg4; have z4 := Try.sizeOf4; have v4 := Try.zeroValue4; have u4 := run_underlying Try.underlying4
  have t24 := Try.underlying44; have a24 := Try.isAgg44; have z24 := Try.sizeOf44; have v24 := Try.zeroValue44
  have z25 := Try.sizeOf46
  have nt : Try.f133.ntmps = 33 := rfl
  obtain ⟨news, hnews⟩ : ∃ news, news = cs.drop (j * 6) := ⟨_, rfl⟩
  have hlen : news.length = (n - j) * 6 := by rw [hnews, List.length_drop, hcl]; omega
  obtain ⟨A, hA, hsrc⟩ : ∃ A : Addr, (if cap = j then some (⟨blk, off, none⟩ : Addr) else some ⟨blk, off + j * 6, none⟩) = some A ∧ Hid (∀ t u, news[t]? = some u → w.drew.cell? (A.add t) = some u) := by
    by_cases h : cap = j
    · refine ⟨⟨blk, off, none⟩, by simp [h], fun t u hu => ?_⟩
      have h0 : news.length = 0 := by rw [hlen]; omega
      rw [List.length_eq_zero_iff.1 h0] at hu
      simp at hu
    · refine ⟨⟨blk, off + j * 6, none⟩, by simp [h], fun t u hu => ?_⟩
      rw [hnews, List.getElem?_drop] at hu
      rw [Addr.add_lit, Nat.add_assoc]
      exact hcs _ u hu
  have s1 : Hid (news.length = (n - j) * 6) := hlen
  have s2 : Hid (∀ u ∈ news, u.oneCell' = true) := by
    intro u hu
    rw [hnews] at hu
    exact h1c u (List.mem_of_mem_drop hu)
  have hsome : ∀ t, t < n * 6 → (w.cell? ⟨blk, off + t, none⟩).isSome = true := fun t ht => by
    rw [hcs t _ (List.getElem?_eq_getElem (by omega))]; rfl
  have s3 : Hid (∀ t, t < news.length → (w.drew.cell? ⟨blk, off + i * 6 + t, none⟩).isSome = true ∧ w.drew.frozen? ⟨blk, off + i * 6 + t, none⟩ = false) := by
    intro t ht
    rw [hlen] at ht
    rw [Nat.add_assoc]
    exact ⟨hsome _ (by omega), hfz _ (by omega)⟩
  obtain ⟨W1, hW1⟩ : ∃ W1, W1 = w.drew.setCells blk (off + i * 6) news := ⟨_, rfl⟩
  have hv25 : ∀ w, (zeroValue 46).run Try.prog w = .ok z w := fun w => by simp [zeroValue, typeInfo, hi0, hz0]
  have hclr : ∀ ty, (Builtin.clear_ #[44] ty #[.slice (some ⟨blk, off + (i + (n - j)) * 6, none⟩) (n - (i + (n - j))) (cap - (i + (n - j)))]).run Try.prog W1 = .ok (.tuple #[]) (W1.setCells blk (off + (i + (n - j)) * 6) (Builtin.zeroCells z.cells (n - (i + (n - j)))).toList) :=
    fun ty => clear_rows W1 _ _ ty z 6 t24 hv25 hzc (by decide) hz1c blk (off + (i + (n - j)) * 6) _ _ (by omega) (fun t ht => by
      rw [hW1, Nat.add_assoc]
      exact isSome_setCells blk _ _ _ (fun j' hj' => by rw [Nat.add_assoc]; exact hsome _ (by omega)) _ (hsome _ (by omega))) (fun t ht => by
      rw [hW1, World.frozen?_setCells, Nat.add_assoc]
      exact hfz _ (by omega))
  have hW : Hid (W1 = w.drew.setCells blk (off + i * 6) news) := hW1
  have hX : Hid (news = cs.drop (j * 6)) := hnews
  have hic : i ≤ cap := by omega
  have hjc : j ≤ cap := by omega
  have hlt : i < j := hij
  have hin : i ≤ n := by omega
  obtain ⟨Z, hZ⟩ : ∃ Z, Z = (Builtin.zeroCells z.cells (n - (i + (n - j)))).toList := ⟨_, rfl⟩
  rw [← hZ] at hclr ⊢
  clear hW1 hnews hlen hsome hcs hfz h1c hz1c hZ hzc hz0 hv25
  go_enter Try.func133, nt
  go_wp2_with fail
  go_region_law_o (refine step_append_room rfl (.tmp 22) (.tmp 25) 44 rfl 46 i0 6 t24 hi0 hzs blk off i cap (by simp [Act.eval, Act.put]) A (n - j) (cap - j) news (by simp [Act.eval, Act.put]) s1.out hsrc.out s2.out (by omega) s3.out ?_; rw [← hW.out])
  go_wp2
  go_ret
  refine ⟨rfl, ?_⟩
  rw [hW.out, hX.out]
end Go.Proofs.P6
end
section
set_option linter.unusedVariables false
set_option linter.unusedSimpArgs false
set_option maxRecDepth 10000
set_option maxHeartbeats 4000000
namespace Go.Proofs.P6
open Go.Lib Go.RowKit Go.Ex
theorem entZero {i0 : TypeInfo} {z : Value} (hi : Try.prog.info? 46 = some i0) (hz : i0.zero = some z) : ∀ v ∈ z.cells, v.oneCell' = true := by
  have h : (Try.prog.info? 46).map (fun i => i.zero.map fun z => z.cells.all fun v => v.oneCell') = some (some true) := by kernel_rfl
  rw [hi] at h
  simp only [Option.map_some, hz, Option.some.injEq] at h
  exact Array.all_eq_true'.1 h
theorem delete_ok (l : List Entry) (i : Nat) (hi : i < l.length) (hl : l.length ≤ 5000) {h : Hp} {nx id ver : Nat} (hb : h id = some ⟨ver, 6, fl entCd l, none⟩) (hlt : id < nx) :
    SOk Try.prog 133 [.sl id ver 0 l.length none, .int .i64 i, .int .i64 ((i : Int) + 1)] h nx (.sl id (ver + 1) 0 (wo l i).length none) (upd h id (some ⟨ver + 1, 6, fl entCd (wo l i), none⟩)) nx := by
  rw [show (i : Int) + 1 = ((i + 1 : Nat) : Int) by omega]
  intro w0 w φ S vs hf hR hvs
  obtain ⟨a, b, c3, rfl, ha, hb3, hc3⟩ := reps3 hvs
  cases hb3
  cases hc3
  obtain ⟨c, oo, arr, el, fz, rfl, p2, p4, z1, p3, z2, z3, z4⟩ := own_row hR hb ha
  have e1 := p2 (by omega)
  subst e1
  have hfl : (fl entCd l).length = l.length * 6 := flat_len l
  rw [hfl] at z2
  obtain ⟨i0, z, hi0, hz0, hzs, hzb, hzc⟩ := entInfo
  have hz1 := entZero hi0 hz0
  obtain ⟨cs, hcs⟩ : ∃ cs, cs = (arr.extract (φ id).2 ((φ id).2 + l.length * 6)).toList := ⟨_, rfl⟩
  have hcl : cs.length = l.length * 6 := by rw [hcs]; simp; omega
  have hcg : ∀ j, j < l.length * 6 → cs[j]? = arr[(φ id).2 + j]? := fun j hj => by rw [hcs, Array.getElem?_toList, Array.getElem?_extract, if_pos (by omega)]
  have hca : ∀ j v, cs[j]? = some v → w.cell? ⟨(φ id).1, (φ id).2 + j, none⟩ = some v := fun j v hj => by
    have := (List.getElem?_eq_some_iff.1 hj).1
    rw [hcg j (by omega)] at hj
    rw [cell_at z1, hj]
  have h1c : ∀ v ∈ cs, v.oneCell' = true := fun v hm' => by
    obtain ⟨j, hj⟩ := List.getElem?_of_mem hm'
    have hjl := (List.getElem?_eq_some_iff.1 hj).1
    rw [hcg j (by omega)] at hj
    exact (z4 j _ v (List.getElem?_eq_getElem (by omega)) hj).2
  clear hcs
  have hwl : (wo l i).length = l.length - 1 := by
    unfold wo
    simp only [List.length_append, List.length_take, List.length_drop]
    omega
  have hlen : (fl entCd (wo l i)).length = (l.length - 1) * 6 := by
    rw [show (fl entCd (wo l i)).length = (wo l i).length * 6 from flat_len _, hwl]
  have hwf : fl entCd (wo l i) = (fl entCd l).take (i * 6) ++ (fl entCd l).drop ((i + 1) * 6) := by
    unfold wo
    rw [fl_append, fl_takeN (by omega), fl_dropN (by omega)]
    rfl
  have htl : ((fl entCd l).take (i * 6)).length = i * 6 := by rw [List.length_take]; omega
  refine (delete_walk i0 z hi0 hzs hz0 hzc hz1 (φ id).1 (φ id).2 c i (i + 1) l.length cs w (by omega) (by omega) p4 (by omega) hcl hca (fun t ht => frozen_no z1 z3) h1c).mono fun e w' he => ?_
  obtain ⟨rfl, rfl⟩ := he
  rw [show i + (l.length - (i + 1)) = l.length - 1 by omega, show l.length - (l.length - 1) = 1 by omega]
  have hZl : (Builtin.zeroCells z.cells 1).toList.length = 6 := by rw [Array.length_toList, size_zeroCells, hzc]
  generalize (Builtin.zeroCells z.cells 1).toList = Z at *
  have hA := setCells_self (cs.drop ((i + 1) * 6)) w.drew (φ id).1 ((φ id).2 + i * 6) arr el fz z1
  have hB := setCells_self Z _ (φ id).1 ((φ id).2 + (l.length - 1) * 6) _ el fz hA
  obtain ⟨s1, s2, s3, s4⟩ := setCells_same (cs.drop ((i + 1) * 6)) w.drew (φ id).1 ((φ id).2 + i * 6)
  obtain ⟨u1, u2, u3, u4⟩ := setCells_same Z (w.drew.setCells (φ id).1 ((φ id).2 + i * 6) (cs.drop ((i + 1) * 6))) (φ id).1 ((φ id).2 + (l.length - 1) * 6)
  have hdl : (cs.drop ((i + 1) * 6)).length = (l.length - (i + 1)) * 6 := by rw [List.length_drop, hcl]; omega
  have hsz1 := putArr_size (cs.drop ((i + 1) * 6)) arr ((φ id).2 + i * 6)
  have g1 := fun k => putArr_get (cs.drop ((i + 1) * 6)) arr ((φ id).2 + i * 6) k (by omega)
  have g2 := fun k => putArr_get Z (putArr arr ((φ id).2 + i * 6) (cs.drop ((i + 1) * 6))) ((φ id).2 + (l.length - 1) * 6) k (by omega)
  obtain ⟨k1, k2⟩ := hR.move (o := (φ id).2) (b' := ⟨ver + 1, 6, fl entCd (wo l i), none⟩) hb (by simp) rfl (fun k _ hk => by rw [setCells_else _ _ _ _ _ hk, setCells_else _ _ _ _ _ hk]; rfl) (u2.trans s2) (u3.trans s3) (u4.trans s4) (by rw [u1, s1]; exact Nat.le_refl _) (.inr rfl) hB
    (by simp only [hlen]; rw [putArr_size, putArr_size]; omega) (.inl z3) (fun j c v hc hv => by
      have hjl := (List.getElem?_eq_some_iff.1 hc).1
      simp only [hlen] at hjl
      rw [g2, if_neg (by omega), g1] at hv
      simp only [hwf] at hc
      by_cases q : j < i * 6
      · rw [List.getElem?_append_left (by omega), List.getElem?_take, if_pos q] at hc
        rw [if_neg (by omega)] at hv
        exact z4 j c v hc hv
      · rw [List.getElem?_append_right (by omega), htl, List.getElem?_drop] at hc
        rw [if_pos (by omega), List.getElem?_drop, hcg _ (by omega), show (i + 1) * 6 + ((φ id).2 + j - ((φ id).2 + i * 6)) = (i + 1) * 6 + (j - i * 6) by omega] at hv
        exact z4 _ c v hc hv)
  refine ⟨_, _, S, rfl, k1, k2, fun _ h _ => h, fun j hj => ?_, ?_⟩
  · simp only [upd]
    rw [if_neg (by omega)]
    exact hf j hj
  · rw [hwl]
    refine .sl _ _ _ _ _ _ _ ⟨_, upd_self _ _ _, Nat.le_refl _, fun _ => ⟨(φ id).2, by rw [upd_self], fun _ => by rw [upd_self]; rfl, ?_, by omega, fun _ h => by cases h⟩⟩
    rw [upd_self, szOf_at hB, putArr_size, putArr_size]
    simp only
    omega
/-- What an empty slice is. -/
theorem em_val {φ : Nat → Nat × Nat} {h : Hp} {S : Nat → Prop} {w : World} {x : Value} (hr : Rep φ h S w .em x) : ∃ a, x = .slice a 0 0 := by
  cases hr
  · exact ⟨none, rfl⟩
  · exact ⟨some _, rfl⟩
theorem insert_em (x : Entry) {h : Hp} {nx vid vver : Nat} (hv : h vid = some ⟨vver, 6, entV x, none⟩) :
    SOk Try.prog 131 [.em, .int .i64 0, .sl vid vver 0 1 (some 1)] h nx (.sl nx 0 0 1 none) (upd h nx (some ⟨0, 6, entV x, none⟩)) (nx + 1) := by
  intro w0 w φ S vs hf hR hvs
  obtain ⟨a, b, c3, rfl, ha, hb3, hc3⟩ := reps3 hvs
  cases hb3
  obtain ⟨cv, ov, arv, elv, fv, rfl, y2, y4, x1, y3, x2, x3, x4⟩ := own_row hR hv hc3
  have e2 := y2 (by omega)
  subst e2
  obtain ⟨base, rfl⟩ := em_val ha
  have hev : (entV x).length = 6 := rfl
  rw [hev] at x2
  have t24 := Try.underlying44
  obtain ⟨i0, z, hi0, hz0, hzs, hzb, hzc⟩ := entInfo
  obtain ⟨vv, hvv⟩ : ∃ vv, vv = (arv.extract (φ vid).2 ((φ vid).2 + 6)).toList := ⟨_, rfl⟩
  have hvl : vv.length = 1 * 6 := by rw [hvv]; simp; omega
  have hvg : ∀ j, j < 6 → vv[j]? = arv[(φ vid).2 + j]? := fun j hj => by rw [hvv, Array.getElem?_toList, Array.getElem?_extract, if_pos (by omega)]
  have hva : ∀ j v, vv[j]? = some v → w.cell? ⟨(φ vid).1, (φ vid).2 + j, none⟩ = some v := fun j v hj => by
    have := (List.getElem?_eq_some_iff.1 hj).1
    rw [hvg j (by omega)] at hj
    rw [cell_at x1, hj]
  have fls : (Builtin.firstCells i0.size 1 (.slice (some ⟨(φ vid).1, (φ vid).2, none⟩) 1 cv)).run Try.prog w.drew = .ok vv.toArray w.drew := by
    rw [hzs]
    refine run_firstCells_some w.drew 6 1 ⟨(φ vid).1, (φ vid).2, none⟩ 1 cv vv hvl (fun j v hj => ?_)
    rw [Addr.add_lit]
    exact hva j v hj
  clear hvv
  have hfo : (Builtin.firstCells i0.size 0 (.slice base 0 0)).run Try.prog w.drew = .ok #[] w.drew := by
    cases base with
    | none => exact run_firstCells_none ..
    | some a => exact run_firstCells_some w.drew _ 0 a 0 0 [] (by simp) (fun j v hj => by simp at hj)
  have hge := grownCap_ge w (0 + 1) 0 46
  have hrun := fun ty => append_grow (P := Try.prog) (w := w) (A := #[44, 44]) (ty := ty) rfl rfl t24 t24 (by intro k; simp) hi0 hz0 base 0 0 1 (.slice (some ⟨(φ vid).1, (φ vid).2, none⟩) 1 cv) #[] vv.toArray (by simp [Builtin.lenOf]) hfo fls (by omega) (by omega) (growslice_fits (by omega) (by rw [hzb]; omega)) (by omega)
  refine (insert_end base 0 0 (φ vid).1 (φ vid).2 1 cv _ w _ (by decide) (by omega) (by omega) (fun h => ⟨rfl, rfl⟩) hrun).mono fun e w' he => ?_
  obtain ⟨rfl, rfl⟩ := he
  rw [Nat.zero_add] at *
  generalize grownCap w 1 0 46 = G at *
  obtain ⟨ROW, hROW⟩ : ∃ ROW : Array Value, ROW = #[] ++ vv.toArray ++ Builtin.zeroCells z.cells (G - 1) := ⟨_, rfl⟩
  rw [← hROW]
  have hRs : ROW.size = G * 6 := by
    rw [hROW, Array.size_append, Array.size_append, size_zeroCells, hzc]
    simp only [List.size_toArray]
    simp
    omega
  have hRg : ∀ j, j < 6 → ROW[j]? = arv[(φ vid).2 + j]? := fun j hj => by
    rw [hROW, Array.getElem?_append_left (by simp; omega)]
    simp
    exact hvg j hj
  obtain ⟨q1, q2⟩ := hR.new (w' := w.drew.alloc (.cells ROW 46)) (below_drew_alloc _) (hf nx (Nat.le_refl _)) (Nat.le_refl _) (alloc_at (w := w.drew) _) (cells := entV x) (by rw [hev]; omega) (.inl rfl) (fun i c v hc hv => by
    have hjl := (List.getElem?_eq_some_iff.1 hc).1
    rw [hev] at hjl
    rw [hRg i hjl] at hv
    exact x4 i c v hc hv) 6
  refine ⟨_, _, S, rfl, q1, q2, fun _ h _ => h, fun j hj => ?_, .sl _ _ _ _ _ _ _ ⟨_, upd_self _ _ _, Nat.le_refl _, fun _ => ⟨0, by rw [upd_self], fun _ => by rw [upd_self], ?_, hge, fun _ h => by cases h⟩⟩⟩
  · simp only [upd]
    rw [if_neg (by omega)]
    exact hf j (by omega)
  · have hat : (w.drew.alloc (.cells ROW 46)).heap[w.heap.size]? = some (.cells ROW 46) := alloc_at (w := w.drew) _
    rw [upd_self]
    show 0 + 0 + G * 6 ≤ szOf _ w.heap.size
    rw [szOf_at hat]
    omega
end Go.Proofs.P6
end
