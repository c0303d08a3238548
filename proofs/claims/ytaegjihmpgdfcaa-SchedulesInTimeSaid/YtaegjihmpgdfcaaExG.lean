/- The rest of the small operations: structs built, slices made and cut, bytes and strings, append. -/
import Derived.Test.YtaegjihmpgdfcaaExF
import Derived.IntWalk
import Derived.Laws.BytesString
set_option linter.unusedVariables false
set_option linter.unusedSimpArgs false
namespace Go.Ex
open Go.RowKit
theorem pureL_iff : ∀ {l : List V}, V.pureL l = true ↔ ∀ v ∈ l, V.pure v = true
  | [] => by simp [V.pureL]
  | v :: l => by simp [V.pureL, pureL_iff (l := l)]
theorem pureL_take {l : List V} (n : Nat) (h : V.pureL l = true) : V.pureL (l.take n) = true :=
  pureL_iff.2 fun v hv => pureL_iff.1 h v (List.mem_of_mem_take hv)
theorem pureL_drop {l : List V} (n : Nat) (h : V.pureL l = true) : V.pureL (l.drop n) = true :=
  pureL_iff.2 fun v hv => pureL_iff.1 h v (List.mem_of_mem_drop hv)
section
variable {φ : Nat → Nat × Nat} {h : Hp} {S : Nat → Prop} {w w0 : World} {P : Program} {a : Act} {o : Oper} {t : Nat → V} {sh : Nat → Bool}
theorem run_places : ∀ (fs : List Field), (∀ f ∈ fs, (szT P f.type).isSome = true) → ∃ l : List (Nat × Nat), (fs.mapM fun f => (do pure (f.offset, ← sizeOf f.type) : Sem (Nat × Nat))).run P w = .ok l w ∧
    l.length = fs.length ∧ ∀ (i : Nat) (f : Field) s, fs[i]? = some f → szT P f.type = some s → l[i]? = some (f.offset, s)
  | [], _ => ⟨[], by simp, rfl, fun i f s hf => by simp at hf⟩
  | f :: fs, hs => by
    obtain ⟨l, h1, h2, h3⟩ := run_places fs fun g hg => hs g (List.mem_cons_of_mem _ hg)
    obtain ⟨s, hss⟩ := Option.isSome_iff_exists.1 (hs f List.mem_cons_self)
    refine ⟨(f.offset, s) :: l, ?_, by simp [h2], fun i g u hg hu => ?_⟩
    · rw [List.mapM_cons]
      simp only [Sem.run_bind, run_sizeOf' hss, Result.andThen_ok, Sem.run_pure, h1]
    · cases i with
      | zero =>
        simp at hg; subst hg
        rw [hss] at hu; injection hu with hu; subst hu
        rfl
      | succ i =>
        simp only [List.getElem?_cons_succ] at hg ⊢
        exact h3 i g u hg hu
theorem unbytes_eq : ∀ (cs : List V) (s : List UInt8), unbytes cs = some s → ∃ ns : List Int, cs = ns.map (V.int .u8) ∧ s = ns.map fun n => UInt8.ofNat n.toNat
  | [], s, e => by simp [unbytes] at e; subst e; exact ⟨[], rfl, rfl⟩
  | c :: l, s, e => by
    unfold unbytes at e
    split at e
    · rename_i hh; cases hh
    · rename_i n l' hh
      cases hh
      rw [Option.map_eq_some_iff] at e
      obtain ⟨s', h1, rfl⟩ := e
      obtain ⟨ns, g1, g2⟩ := unbytes_eq l s' h1
      exact ⟨n :: ns, by rw [g1]; rfl, by rw [g2]; rfl⟩
    · cases e
theorem foldl_push : ∀ (ns : List Int) (acc : ByteArray), (ns.foldl (fun r n => r.push (UInt8.ofNat n.toNat)) acc).data.toList = acc.data.toList ++ ns.map fun n => UInt8.ofNat n.toNat
  | [], acc => by simp
  | n :: ns, acc => by
    rw [List.foldl_cons, foldl_push ns]
    simp
variable {r : R} {nx : Nat} (hR : Rel P w0 φ S h w) (ht : ∀ n, Rep φ h S w (t n) (a.tmps.getD n undef)) (hf : ∀ id, nx ≤ id → id < r.nx → h id = none)
include hR ht hf
theorem s_bld {ty : TypeId} {fs : Array Field} {parts : Array (Nat × Operand)} {zs : List V} {ps : List (Nat × Nat × X)} (ho : o.op = .build ty parts) (hty : P.underlying ty = some (.struct fs)) (hz : zeroT P ty = some zs)
    (hp : compParts (fun i => (fs[i]?).bind fun f => (szT P f.type).map fun s => (f.offset, s)) parts.toList = some ps) (hall : fs.all (fun f => (szT P f.type).isSome) = true)
    (e : opA (.bld zs ps) (X.ev t) h nx = some r) : Sound P o a w w0 φ S h r := by
  have _ := hf
  unfold opA at e
  simp only at e
  cases hcs : fillS (X.ev t) zs ps with
  | none => rw [hcs] at e; simp [ret0] at e
  | some cs =>
    obtain ⟨i, hi, z, hzz⟩ : ∃ i, P.info? ty = some i ∧ ∃ z, i.zero = some z := by
      unfold zeroT at hz
      split at hz
      · rename_i z hzz
        obtain ⟨i, hi, hiz⟩ := Option.bind_eq_some_iff.1 hzz
        exact ⟨i, hi, z, hiz⟩
      · cases hz
    obtain ⟨z1, z2⟩ := zeros_rep (φ := φ) (h := h) (S := S) (w := w) hi hzz hz
    obtain ⟨arr', k1, k2, k3⟩ := fillS_rep ht parts.toList ps zs cs z.cells hp hcs z1 z2
    obtain ⟨l, l1, l2, l3⟩ := run_places (P := P) (w := w) fs.toList (fun f hf => by
      rw [Array.all_eq_true] at hall
      obtain ⟨j, hj⟩ := List.getElem?_of_mem hf
      have hj' : fs[j]? = some f := by simpa using hj
      obtain ⟨q1, q2⟩ := Array.getElem?_eq_some_iff.1 hj'
      have := hall j q1
      rw [q2] at this
      exact this)
    have hfill : ∀ (ps : List (Nat × Value)) (arr : Array Value), (∀ p ∈ ps, ∃ q, ((fs[p.1]?).bind fun f => (szT P f.type).map fun s => (f.offset, s)) = some q) →
        Instr.fill (fun i => l[i]?) arr ps = Instr.fill (fun i => (fs[i]?).bind fun f => (szT P f.type).map fun s => (f.offset, s)) arr ps := by
      intro ps
      induction ps with
      | nil => intro arr _; rfl
      | cons p ps ih =>
        intro arr hp
        obtain ⟨q, hq⟩ := hp p List.mem_cons_self
        obtain ⟨f, hf, hf2⟩ := Option.bind_eq_some_iff.1 hq
        rw [Option.map_eq_some_iff] at hf2
        obtain ⟨s, hs, rfl⟩ := hf2
        have := l3 p.1 f s (by simpa using hf) hs
        unfold Instr.fill
        simp only [this, hq]
        split
        · rfl
        · exact ih _ fun q hq => hp q (List.mem_cons_of_mem _ hq)
    have hok : ∀ (pl : List (Nat × Operand)) (ps : List (Nat × Nat × X)), compParts (fun i => (fs[i]?).bind fun f => (szT P f.type).map fun s => (f.offset, s)) pl = some ps →
        ∀ p ∈ (pl.map fun p => (p.1, a.eval p.2)), ∃ q, ((fs[p.1]?).bind fun f => (szT P f.type).map fun s => (f.offset, s)) = some q := by
      intro pl
      induction pl with
      | nil => intro ps _ p hp; simp at hp
      | cons x pl ih =>
        intro ps hps p hp
        unfold compParts at hps
        split at hps
        · rename_i p1 p2 p3
          simp only [List.map_cons, List.mem_cons] at hp
          rcases hp with rfl | hp
          · exact ⟨_, p1⟩
          · exact ih _ p3 p hp
        · cases hps
    have k1' := (hfill _ z.cells (hok _ _ hp)).trans k1
    refine .pure (x := .agg arr') hR e fun u' hu' => ?_
    rw [hcs] at hu'
    injection hu' with hu'
    subst hu'
    refine ⟨?_, .agg _ _ k2 (fun i v hv => ?_) fun i c v hc hv => (k3 i c v hc hv).1⟩
    · have hm : (fs.mapM fun f => (do pure (f.offset, ← sizeOf f.type) : Sem (Nat × Nat))).run P w = .ok l.toArray w := by
        rw [Array.mapM_eq_mapM_toList]
        simp only [Sem.run_map, l1, Result.andThen_ok]
      have k1'' : Instr.fill (fun x => l.toArray[x]?) z.cells (parts.toList.map fun p => (p.1, a.eval p.2)) = some arr' := by simpa using k1'
      simp only [execOp, ho, Instr.build, Sem.run_bind, zeroValue, typeInfo, run_program, Result.andThen_ok, hi, Sem.run_pure, hzz, run_underlying hty, hm]
      simp
      rw [k1']
      simp
    · have hi : i < cs.length := by
        have := (Array.getElem?_eq_some_iff.1 hv).1
        omega
      exact (k3 i _ v (List.getElem?_eq_getElem hi) hv).2
theorem s_mk {ty el : TypeId} {i : TypeInfo} {l c : Operand} {l' c' : X} {zs : List V} (ho : o.op = .makeSlice ty l c) (hty : P.underlying ty = some (.slice el)) (hi : P.info? el = some i) (hz : zeroT P el = some zs)
    (hn : 0 < i.size) (hzn : zs.length = i.size) (hl : compX l = some l') (hc : compX c = some c') (e : opA (.mk i.size i.bytes zs l' c') (X.ev t) h nx = some r) : Sound P o a w w0 φ S h r := by
  unfold opA at e
  simp only at e
  have rl := evRep ht hl
  have rc := evRep ht hc
  generalize hvl : a.eval l = vl at rl
  generalize hvc : a.eval c = vc at rc
  split at e
  · rename_i p q h1 h2
    rw [h1] at rl
    rw [h2] at rc
    cases rl
    cases rc
    split at e
    · rename_i hq
      obtain ⟨c1, c2, c3, c4⟩ := hq
      injection e with e
      subst e
      obtain ⟨z, hzz⟩ : ∃ z, i.zero = some z := by
        unfold zeroT at hz; rw [hi] at hz; simp only [Option.bind_some] at hz
        split at hz
        · exact ⟨_, by assumption⟩
        · cases hz
      obtain ⟨z1, z2⟩ := zeros_rep (φ := φ) (h := h) (S := S) (w := w) hi hzz hz
      have hrr := range_rep (n := q.toNat) z1 z2 (by omega)
      rw [hzn] at hrr
      refine .newSlice (cap := q.toNat) hR (below_alloc' (.cells ((Array.range (q.toNat * i.size)).map fun j => z.cells[j % z.cells.size]!) el)) (hf nx (Nat.le_refl _) (Nat.lt_succ_self _)) (Nat.le_refl _) (alloc_at _) (by simp [zeros_len, hzn]) (.inl rfl) hrr (by simp) (by omega) (fun m hm => by injection hm) rfl rfl ?_
      have w1 : IntKind.i64.wrap p = p := IntWalk.i64_in _ (by omega)
      have w2 : IntKind.i64.wrap q = q := IntWalk.i64_in _ (by omega)
      have hb1 : ¬ (q < 0) := by omega
      have hb2 : ¬ ((i.bytes : Int) * q > 2 ^ 48) := by
        rw [Int.mul_comm]; omega
      have hb3 : ¬ p < 0 := by omega
      have hb4 : ¬ q < p := by omega
      have hb2' : ¬ (281474976710656 < (i.bytes : Int) * q) := by rw [Int.mul_comm]; omega
      by_cases h0 : q.toNat * i.size = 0
      · simp [execOp, ho, hvl, hvc, Instr.makeSlice, run_underlying hty, asInt, asIntOf, typeInfo, hi, w1, w2, hb1, hb2', hb3, hb4, sizeOf, newRow]
        rw [if_pos h0, h0, show Array.range 0 = #[] from Array.eq_empty_of_size_eq_zero (by simp)]
        simp
      · simp [execOp, ho, hvl, hvc, Instr.makeSlice, run_underlying hty, asInt, asIntOf, typeInfo, hi, w1, w2, hb1, hb2', hb3, hb4, sizeOf, newRow, zeroValue, hzz, h0]
    · cases e
  · cases e
theorem s_clr {ty el : TypeId} {ts : Array TypeId} {x : Operand} {x' : X} {i : TypeInfo} {zs : List V} (ho : o.op = .call { callee := .builtin .clear, args := #[x], argTypes := ts }) (h0 : ts[0]? = some ty) (hty : P.underlying ty = some (.slice el)) (hi : P.info? el = some i) (hz : zeroT P el = some zs) (hp : 0 < i.size) (hzl : zs.length = i.size) (hx : compX x = some x')
    (e : opA (.clr x' i.size zs) (X.ev t) h nx = some r) : Sound P o a w w0 φ S h r := by
  unfold opA at e
  simp only at e
  have rx := evRep ht hx
  generalize hvx : a.eval x = vx at rx
  split at e
  · rename_i id ver off len cap h1
    rw [h1] at rx
    split at e
    · rename_i bb hbb
      split at e
      · rename_i hc
        obtain ⟨c1, cm, c2, c3⟩ := hc
        injection e with e
        subst e
        cases rx
        rename_i ad c hr
        obtain ⟨b1, q1, q2, q3⟩ := hr
        rw [hbb] at q1
        injection q1 with q1
        subst q1
        obtain ⟨oo, rfl, hoo, hcap, hlc, hocap⟩ := q3 c1
        obtain ⟨z, hzz⟩ : ∃ z, i.zero = some z := by
          unfold zeroT at hz; rw [hi] at hz; simp only [Option.bind_some] at hz
          split at hz
          · exact ⟨_, by assumption⟩
          · cases hz
        by_cases hl0 : len = 0
        · subst hl0
          have eb : upd h id (some ⟨ver, bb.esz, putL bb.cells off (zeros zs 0), none⟩) = h := by
            funext j
            unfold upd
            split
            · rename_i hj
              subst hj
              rw [hbb, zeros, putL, ← c1, ← cm]
            · rfl
          refine ⟨.tuple #[], w, φ, .inl ?_, ?_, ?_, .tup _ _ rfl (fun i c v hc => by simp at hc)⟩
          · simp [execOp, ho, hvx, resolve, invoke, builtin, Builtin.clear_, h0, run_underlying hty]
          · rw [eb]; exact hR
          · rw [eb]; exact Ext.refl
        · have hoo' := hoo (by omega)
          subst hoo'
          obtain ⟨z1, z2⟩ := zeros_rep (φ := φ) (h := h) (S := S) (w := w) hi hzz hz
          have hrr := range_rep (n := len) z1 z2 (by omega)
          rw [hzl] at hrr
          have hzc : Builtin.zeroCells z.cells len = (Array.range (len * i.size)).map fun j => z.cells[j % z.cells.size]! := by
            unfold Builtin.zeroCells
            rw [z1, hzl]
          generalize hvv : ((Array.range (len * i.size)).map fun j => z.cells[j % z.cells.size]!) = vv at *
          have hvs : vv.size = len * i.size := by rw [← hvv]; simp
          have hzsl : (zeros zs len).length = len * i.size := by rw [zeros_len, hzl]
          obtain ⟨arr, el', fz, y1, y2, y3, y4⟩ := (hR.blk _ _ hbb).at_ cm
          have hst := run_storeCells_cells (P := P) (φ id).1 ((φ id).2 + off) vv.toList 0 w (fun j hj => by
              rw [cell_at y1]; simp at hj; rw [Array.getElem?_eq_getElem (by omega)]; rfl) (fun j hj => by simp at hj; exact frozen_at y1 y3 (by omega)) (fun u hu => by
              obtain ⟨j, hj⟩ := List.getElem?_of_mem hu
              have hj' : vv[j]? = some u := by simpa using hj
              have hjl : j < (zeros zs len).length := by
                have := (Array.getElem?_eq_some_iff.1 hj').1
                omega
              exact (hrr j _ u (List.getElem?_eq_getElem hjl) hj').2)
          simp only [Nat.add_zero] at hst
          obtain ⟨s1, s2, s3, s4⟩ := setCells_same vv.toList w (φ id).1 ((φ id).2 + off)
          have hw := hR.write (b' := ⟨ver, bb.esz, putL bb.cells off (zeros zs len), none⟩) hbb (by simp; omega) (fun _ => rfl) rfl (fun k hk => setCells_else _ _ _ _ _ hk) s2 s3 s4 s1 y1 (setCells_self _ _ _ _ _ _ _ y1) (putArr_size _ _ _) y3 (by simp [putL_len]; omega)
            (fun i' c u hc hu => by
              rw [putL_get _ _ _ _ (by omega)] at hc
              rw [putArr_get _ _ _ _ (by simp; omega)] at hu
              simp only [Array.length_toList] at hu
              split at hc
              · rename_i hq
                rw [if_pos (by omega)] at hu
                rw [show (φ id).2 + i' - ((φ id).2 + off) = i' - off by omega] at hu
                exact hrr _ c u hc (by simpa using hu)
              · rename_i hq
                rw [if_neg (by omega)] at hu
                exact y4 i' c u hc hu)
          refine ⟨.tuple #[], _, φ, .inl ?_, hw.1, hw.2, .tup _ _ rfl (fun i c v hc => by simp at hc)⟩
          simp [execOp, ho, hvx, resolve, invoke, builtin, Builtin.clear_, h0, run_underlying hty, zeroValue, typeInfo, hi, hzz, hzc, hst, hl0]
      · cases e
    · cases e
  · cases e
theorem s_mrk {s d el : TypeId} {x : Operand} {x' : X} (ho : o.op = .convert s d x) (hsd : s = d) (hs : P.underlying s = some (.slice el)) (he : P.underlying el = some (.int .u8)) (hx : compX x = some x')
    (e : opA (.mrk x') (X.ev t) h nx = some r) : Sound P o a w w0 φ S h r := by
  subst hsd
  unfold opA at e
  simp only at e
  have rx := evRep ht hx
  generalize hvx : a.eval x = vx at rx
  split at e
  · rename_i id ver off len cap h1
    rw [h1] at rx
    split at e
    · rename_i bb hbb
      split at e
      · rename_i hc
        obtain ⟨c1, cm, ce⟩ := hc
        injection e with e
        subst e
        cases rx
        rename_i ad c hr
        have hr' := hr
        obtain ⟨b1, q1, q2, q3⟩ := hr
        rw [hbb] at q1
        injection q1 with q1
        subst q1
        obtain ⟨oo, rfl, hoo, hcap, hlc, hocap⟩ := q3 c1
        obtain ⟨arr, el', fz, y1, y2, y3, y4⟩ := (hR.blk _ _ hbb).at_ cm
        obtain ⟨lo, hi⟩ := fz
        have hlt : (φ id).1 < w.heap.size := (hR.blk _ _ hbb).lt
        have hshape : w.shape? (φ id).1 = some (el', arr.size) := by simp [World.shape?, y1]
        have hfz : ∃ f', (w.freeze ⟨(φ id).1, arr.size, none⟩ 1).heap[(φ id).1]? = some (.cells arr el' f') ∧ (f'.1 = f'.2 ∨ (arr.size ≤ f'.1 ∧ bb.esz = 1)) := by
          unfold World.freeze
          rw [if_neg (by decide)]
          refine ⟨if lo == hi then (arr.size, arr.size + 1) else (min lo arr.size, max hi (arr.size + 1)), ?_, ?_⟩
          · simp only [Array.getElem?_modify, if_true, y1, Option.map_some]
          · by_cases q : lo = hi
            · subst q; simp [ce]
            · have : arr.size ≤ lo := by
                rcases y3 with y3 | y3
                · exact absurd y3 q
                · exact y3.1
              rw [if_neg (by simpa using q)]
              right
              refine ⟨?_, ce⟩
              simp only
              omega
        obtain ⟨f', hf1, hf2⟩ := hfz
        have hoth : ∀ k, k ≠ (φ id).1 → (w.freeze ⟨(φ id).1, arr.size, none⟩ 1).heap[k]? = w.heap[k]? := fun k hk => by
          unfold World.freeze
          rw [if_neg (by decide)]
          simp only [Array.getElem?_modify]
          rw [if_neg (fun q => hk q.symm)]
        have hsz : (w.freeze ⟨(φ id).1, arr.size, none⟩ 1).heap.size = w.heap.size := by
          unfold World.freeze
          rw [if_neg (by decide)]
          simp
        have hw := hR.write' (w' := w.freeze ⟨(φ id).1, arr.size, none⟩ 1) (b' := bb) hbb (Nat.le_refl _) (fun _ => rfl) hoth (by unfold World.freeze; rw [if_neg (by decide)]) (by unfold World.freeze; rw [if_neg (by decide)]) (by unfold World.freeze; rw [if_neg (by decide)]) hsz (by rw [szOf_at y1, szOf_at hf1])
          (fun h' he' _ => ⟨arr, el', f', hf1, y2, hf2, fun i c v h1 h2 => ⟨(y4 i c v h1 h2).1.ext he', (y4 i c v h1 h2).2⟩⟩) (fun h' _ l hl => by rw [cm] at hl; cases hl)
        refine ⟨.slice (some ⟨(φ id).1, oo, none⟩) len c, _, φ, .inl ?_, hw.1, hw.2, (Rep.sl id ver off len cap _ c hr').ext hw.2⟩
        simp [execOp, ho, hvx, convert, run_underlying hs, run_underlying he, markStringish, hshape]
      · cases e
    · cases e
  · cases e
theorem s_b2s {s d el : TypeId} {x : Operand} {x' : X} (ho : o.op = .convert s d x) (hs : P.underlying s = some (.slice el)) (hd : P.underlying d = some .string) (he : P.underlying el = some (.int .u8)) (hx : compX x = some x')
    (e : opA (.b2s x') (X.ev t) h nx = some r) : Sound P o a w w0 φ S h r := by
  unfold opA at e
  simp only at e
  have rx := evRep ht hx
  generalize hvx : a.eval x = vx at rx
  split at e
  · rename_i n cs hel
    rw [Option.map_eq_some_iff] at e
    obtain ⟨us, hus, rfl⟩ := e
    obtain ⟨⟨ad, c, rfl⟩, hl, news, h1, h2, h3⟩ := elems_rep (P := P) hR rx hel
    obtain ⟨ns, u1, u2⟩ := unbytes_eq cs us hus
    have h1 := h1 w rfl
    have hnews : news = (ns.map (Value.int .u8)).toArray := by
      apply Array.ext_getElem?
      intro i
      by_cases hi : i < news.size
      · have hic : i < cs.length := by omega
        have hr := (h3 i _ _ (List.getElem?_eq_getElem hic) (Array.getElem?_eq_getElem hi)).1
        have hin : i < ns.length := by rw [u1] at hic; simpa using hic
        have hci : cs[i] = .int .u8 ns[i] := by simp [u1]
        rw [hci] at hr
        rw [Array.getElem?_eq_getElem hi]
        generalize news[i] = z at hr
        cases hr
        simp [hin]
      · have : ns.length = news.size := by rw [h2, u1]; simp
        have hle : ns.length ≤ i := by omega
        rw [Array.getElem?_eq_none (by omega : news.size ≤ i)]
        simp [hle]
    have hstr : (ns.foldl (fun r n => r.push (UInt8.ofNat n.toNat)) ByteArray.empty).data.toList = us := by
      rw [foldl_push, u2]; rfl
    refine ⟨.string (ns.foldl (fun r n => r.push (UInt8.ofNat n.toNat)) ByteArray.empty), w, φ, .inl ?_, hR, .refl, by rw [← hstr]; exact .str _⟩
    have hconv : (convert s d (.slice ad n c)).run P w = .ok (.string (ns.foldl (fun r n => r.push (UInt8.ofNat n.toNat)) ByteArray.empty)) w := by
      rw [run_convert_bytes_string w s d el ad n c hs he hd]
      cases ad with
      | none =>
        have hq := (run_firstCells_none (P := P) w 1 n n c).symm.trans h1
        injection hq with q1 q2
        have hn0 : ns = [] := by
          have : news.size = 0 := by rw [← q1]; rfl
          rw [hnews] at this
          cases ns with
          | nil => rfl
          | cons _ _ => simp at this
        rw [hn0]
        rfl
      | some ad =>
        have hlc : (loadCells ad n).run P w = .ok (ns.map (Value.int .u8)).toArray w := by
          rw [← hnews]
          simpa [Builtin.firstCells] using h1
        exact run_bytesToString w ad n c ns hlc
    simp [execOp, ho, hvx, hconv]
  · cases e
omit hR hf in
theorem loHi_rep {isS : Bool} {n len cap : Nat} {lo hi : Option Operand} {lo' hi' : Option X} (hlo : compO lo = some lo') (hhi : compO hi = some hi') {p q : Nat} (e : loHi n (lo'.map (X.ev t)) (hi'.map (X.ev t)) = some (p, q)) (hn : n = len) (hc : len ≤ cap) :
    (Instr.sliceBounds isS len cap (lo.map a.eval) (hi.map a.eval) none).run P w = .ok (p, q, cap) w ∧ p ≤ q ∧ q ≤ len := by
  subst hn
  have bnd : ∀ (x : Operand) (x' : X) (k : IntKind) (i : Int) (y : Nat) (code : BoundsCode), compX x = some x' → x'.ev t = .int k i → 0 ≤ i → i ≤ y → (Instr.sliceBound (a.eval x) y code).run P w = .ok i.toNat w := by
    intro x x' k i y code hx hv h0 h1
    have rx := evRep ht hx
    rw [hv] at rx
    generalize hvx : a.eval x = vx at rx
    cases rx
    have h1' : i ≤ (y : Int) := by omega
    simp [Instr.sliceBound, asIntOf, h0, h1']
  have inv : ∀ {y : Option Operand} {y' : Option X}, compO y = some y' → (y = none ∧ y' = none) ∨ ∃ u v, y = some u ∧ y' = some v ∧ compX u = some v := by
    intro y y' hy
    cases y with
    | none => simp only [compO, Option.some.injEq] at hy; exact .inl ⟨rfl, hy.symm⟩
    | some u =>
      simp only [compO, Option.map_eq_some_iff] at hy
      obtain ⟨v, h1, h2⟩ := hy
      exact .inr ⟨u, v, rfl, h2.symm, h1⟩
  rcases inv hlo with ⟨rfl, rfl⟩ | ⟨u, u', rfl, rfl, hu⟩ <;> rcases inv hhi with ⟨rfl, rfl⟩ | ⟨v, v', rfl, rfl, hv⟩
  · simp [loHi] at e
    obtain ⟨rfl, rfl⟩ := e
    exact ⟨by simp [Instr.sliceBounds], by omega, by omega⟩
  · simp only [Option.map_none, Option.map_some] at e
    unfold loHi at e
    split at e <;> first | (rename_i hh; cases hh; done) | skip
    · rename_i h1 h2
      injection h2 with h2
      split at e
      · rename_i hq
        simp only [Option.some.injEq, Prod.mk.injEq] at e
        obtain ⟨rfl, rfl⟩ := e
        have := bnd v v' _ _ cap (if isS then .sliceAcap else .sliceAlen) hv h2 hq.1 (by omega)
        refine ⟨?_, by omega, by omega⟩
        simp [Instr.sliceBounds, this]
      · cases e
    · rename_i h1 h2
      cases h1
    · cases e
  · simp only [Option.map_none, Option.map_some] at e
    cases hcu : X.ev t u' <;> rw [hcu] at e <;> simp only [loHi] at e <;> first | (cases e; done) | skip
    split at e
    · rename_i hq
      simp only [Option.some.injEq, Prod.mk.injEq] at e
      obtain ⟨rfl, rfl⟩ := e
      have := bnd u u' _ _ n .sliceB hu hcu hq.1 hq.2
      refine ⟨?_, by omega, by omega⟩
      simp [Instr.sliceBounds, this]
    · cases e
  · simp only [Option.map_some] at e
    cases hcu : X.ev t u' <;> rw [hcu] at e <;> first | (simp only [loHi] at e; cases e; done) | skip
    cases hcv : X.ev t v' <;> rw [hcv] at e <;> first | (simp only [loHi] at e; cases e; done) | skip
    rename_i k1 i1 k2 i2
    simp only [loHi] at e
    split at e
    · rename_i hq
      obtain ⟨q1, q2, q3⟩ := hq
      simp only [Option.some.injEq, Prod.mk.injEq] at e
      obtain ⟨rfl, rfl⟩ := e
      have b1 := bnd v v' _ _ cap (if isS then .sliceAcap else .sliceAlen) hv hcv (by omega) (by omega)
      have b2 := bnd u u' _ _ i2.toNat .sliceB hu hcu q1 (by omega)
      refine ⟨?_, by omega, by omega⟩
      simp [Instr.sliceBounds, b1, b2]
    · cases e
theorem s_slcStr {ty : TypeId} {x : Operand} {lo hi : Option Operand} {x' : X} {lo' hi' : Option X} {esz : Nat} (ho : o.op = .slice ty x lo hi none) (hty : P.underlying ty = some .string) (hx : compX x = some x') (hlo : compO lo = some lo') (hhi : compO hi = some hi')
    (e : opA (.slc true x' lo' hi' esz) (X.ev t) h nx = some r) : Sound P o a w w0 φ S h r := by
  have _ := hf
  unfold opA at e
  cases hl : X.ev t x' <;> simp only [hl] at e <;> first | (cases e; done) | skip
  rename_i l
  have rx := evRep ht hx
  rw [hl] at rx
  generalize hvx : a.eval x = vx at rx
  generalize hq : l = l' at rx
  cases rx
  subst hq
  rename_i s
  split at e
  · rename_i p q hpq
    have hsz : s.data.toList.length = s.size := by simp
    obtain ⟨b1, b2, b3⟩ := loHi_rep (P := P) (isS := false) (cap := s.size) (len := s.size) ht hlo hhi hpq hsz (Nat.le_refl _)
    refine .pure (x := .string (s.extract p q)) hR e fun u' hu' => ?_
    injection hu' with hu'
    subst hu'
    refine ⟨?_, ?_⟩
    · simp [execOp, ho, hvx, Instr.sliceAt, Instr.slice, run_underlying hty, b1]
    · have : (s.extract p q).data.toList = (s.data.toList.drop p).take (q - p) := by
        simp [ByteArray.data_extract]
      rw [← this]
      exact .str _
  · cases e
theorem s_sla {ty el : TypeId} {k : Nat} {x : Operand} {lo hi : Option Operand} {x' : X} {lo' hi' : Option X} {esz : Nat} (ho : o.op = .slice ty x lo hi none) (hty : P.underlying ty = some (.array k el)) (hs : szT P el = some esz) (hx : compX x = some x') (hlo : compO lo = some lo') (hhi : compO hi = some hi')
    (e : opA (.sla x' lo' hi' k esz) (X.ev t) h nx = some r) : Sound P o a w w0 φ S h r := by
  unfold opA at e
  simp only at e
  have rx := evRep ht hx
  generalize hvx : a.eval x = vx at rx
  split at e
  · rename_i id ver off h1
    rw [h1] at rx
    split at e
    · rename_i p q hpq
      split at e
      · rename_i b hb
        split at e
        · rename_i hq
          obtain ⟨c1, cm, c2, c3⟩ := hq
          injection e with e
          subst e
          cases rx
          rename_i ad hr
          obtain ⟨b1, q1, q2, q3⟩ := hr
          rw [hb] at q1
          injection q1 with q1
          subst q1
          have := q3 c1
          subst this
          obtain ⟨g1, g2, g3⟩ := loHi_rep (P := P) (w := w) (a := a) (isS := false) (cap := k) (len := k) ht hlo hhi hpq rfl (Nat.le_refl _)
          obtain ⟨arr, el', fz, z1, z2, z3, z4⟩ := (hR.blk _ _ hb).at_ cm
          refine ⟨.slice (some (if k = p then ⟨(φ id).1, (φ id).2 + off, none⟩ else (⟨(φ id).1, (φ id).2 + off, none⟩ : Addr).add (p * esz))) (q - p) (k - p), w, φ, .inl ?_, hR, .refl, ?_⟩
          · simp [execOp, ho, hvx, Instr.sliceAt, Instr.sureAddr, run_underlying hty, run_sizeOf' hs, g1]
          · refine .sl _ _ _ _ _ _ _ ⟨b, hb, q2, fun _ => ?_⟩
            have hm : (q - p) * esz ≤ (k - p) * esz := Nat.mul_le_mul_right _ (by omega)
            have hk : p * esz + (k - p) * esz = k * esz := by rw [← Nat.add_mul]; congr 1; omega
            refine ⟨if k = p then (φ id).2 + off else (φ id).2 + off + p * esz, ?_, fun hc => ?_, ?_, by omega, fun n hn => by injection hn⟩
            · split
              · rfl
              · rw [add_none]
            · rw [if_neg (by omega), Nat.add_assoc]
            · rw [szOf_at z1, c2]
              omega
        · cases e
      · cases e
    · cases e
  · cases e
theorem s_slc {ty el : TypeId} {x : Operand} {lo hi : Option Operand} {x' : X} {lo' hi' : Option X} {esz : Nat} (ho : o.op = .slice ty x lo hi none) (hty : P.underlying ty = some (.slice el)) (hs : szT P el = some esz) (hx : compX x = some x') (hlo : compO lo = some lo') (hhi : compO hi = some hi')
    (e : opA (.slc false x' lo' hi' esz) (X.ev t) h nx = some r) : Sound P o a w w0 φ S h r := by
  unfold opA at e
  simp only at e
  have rx := evRep ht hx
  generalize hvx : a.eval x = vx at rx
  have run : ∀ (ad : Option Addr) (len cap p q : Nat), vx = .slice ad len cap → (Instr.sliceBounds true len cap (lo.map a.eval) (hi.map a.eval) none).run P w = .ok (p, q, cap) w →
      (execOp a.eval o).run P w = .ok (.value (.slice (if cap = p then ad else ad.map (·.add (p * esz))) (q - p) (cap - p))) w := by
    intro ad len cap p q hv hb
    subst hv
    simp [execOp, ho, hvx, Instr.sliceAt, Instr.slice, run_underlying hty, run_sizeOf' hs, hb]
  cases h1 : X.ev t x' <;> simp only [h1] at e <;> first | (cases e; done) | skip
  rotate_left 2
  · rw [h1] at rx
    cases rx
    split at e
    · rename_i pq hpq
      obtain ⟨p, q⟩ := pq
      obtain ⟨b1, b2, b3⟩ := loHi_rep (P := P) (isS := true) (cap := 0) (len := 0) ht hlo hhi hpq rfl (Nat.le_refl _)
      have hp : p = 0 := by omega
      have hq : q = 0 := by omega
      subst hp
      subst hq
      refine .pure (x := .slice none 0 0) hR e fun u' hu' => ?_
      injection hu' with hu'
      subst hu'
      exact ⟨by simpa using run none 0 0 0 0 rfl b1, .ns⟩
    · cases e
  · rw [h1] at rx
    split at e
    · rename_i pq hpq
      obtain ⟨p, q⟩ := pq
      obtain ⟨b1, b2, b3⟩ := loHi_rep (P := P) (isS := true) (cap := 0) (len := 0) ht hlo hhi hpq rfl (Nat.le_refl _)
      have hp : p = 0 := by omega
      have hq : q = 0 := by omega
      subst hp
      subst hq
      cases rx
      · refine .pure (x := .slice none 0 0) hR e fun u' hu' => ?_
        injection hu' with hu'
        subst hu'
        exact ⟨by simpa using run none 0 0 0 0 rfl b1, .em0⟩
      · rename_i ad
        refine .pure (x := .slice (some ad) 0 0) hR e fun u' hu' => ?_
        injection hu' with hu'
        subst hu'
        exact ⟨by simpa using run (some ad) 0 0 0 0 rfl b1, .em _⟩
    · cases e
  · rename_i n cs
    rw [h1] at rx
    split at e
    · rename_i p q hpq
      split at e
      · rename_i hlen
        cases rx
        · obtain ⟨b1, b2, b3⟩ := loHi_rep (P := P) (isS := true) (cap := 0) (len := 0) ht hlo hhi hpq rfl (Nat.le_refl _)
          have hp : p = 0 := by omega
          have hq : q = 0 := by omega
          subst hp
          subst hq
          refine .pure (x := .slice none 0 0) hR e fun u' hu' => ?_
          injection hu' with hu'
          subst hu'
          refine ⟨by simpa using run none 0 0 0 0 rfl b1, ?_⟩
          simp
          exact .roN
        · rename_i ad c vs q1 qp q2 q3
          obtain ⟨b1, b2, b3⟩ := loHi_rep (P := P) (isS := true) (cap := c) (len := n) ht hlo hhi hpq rfl q1
          refine .pure (x := .slice (if c = p then some ad else (some ad).map (·.add (p * esz))) (q - p) (c - p)) hR e fun u' hu' => ?_
          injection hu' with hu'
          subst hu'
          refine ⟨run (some ad) n c p q rfl b1, ?_⟩
          by_cases hcp : c = p
          · rw [if_pos hcp]
            have hqp : q - p = 0 := by omega
            rw [hqp]
            refine .ro _ _ _ _ #[] (by omega) (by simp [V.pureL]) (fun hne => ?_) (fun i x v hx => ?_)
            · exact absurd (by simp) hne
            · simp at hx
          · rw [if_neg hcp]
            refine .ro _ _ _ _ (vs.extract (p * esz) (q * esz)) (by omega) (pureL_take _ (pureL_drop _ qp)) (fun hne => ?_) (fun i x v hx hv => ?_)
            · have hcs : cs ≠ [] := by intro q; rw [q] at hne; simp at hne
              obtain ⟨z1, z2, arr, el, fz, y1, y2, y3, y4⟩ := q2 hcs
              have hpq' : p * esz ≤ q * esz := Nat.mul_le_mul_right _ b2
              have hqn : q * esz ≤ n * esz := Nat.mul_le_mul_right _ b3
              have hsub : (q - p) * esz = q * esz - p * esz := Nat.sub_mul ..
              have hlen' : (List.take ((q - p) * esz) (List.drop (p * esz) cs)).length = q * esz - p * esz := by
                simp; omega
              have had : ad.add (p * esz) = ⟨ad.block, ad.off + p * esz, none⟩ := by
                cases ad; simp at z1; subst z1; exact add_none ..
              dsimp only
              rw [hlen', had]
              refine ⟨rfl, z2, arr, el, fz, y1, by simp only []; omega, ?_, fun i v hi hv => y4 (p * esz + i) v (by omega) (by rw [← Nat.add_assoc]; exact hv)⟩
              rw [y3, Array.extract_extract]
              congr 1
              simp only []
              omega
            · rw [List.getElem?_take] at hx
              split at hx
              · rw [List.getElem?_drop] at hx
                rw [Array.getElem?_extract] at hv
                split at hv
                · exact q3 _ x v hx hv
                · cases hv
              · cases hx
      · cases e
    · cases e
  · rename_i id ver off n cap
    rw [h1] at rx
    split at e
    · rename_i p q hpq
      split at e
      · rename_i bb hbb
        split at e
        · rename_i hv
          obtain ⟨v1, v2⟩ := hv
          injection e with e
          subst e
          cases rx
          rename_i ad c hr
          obtain ⟨b1, q1, q2, q3⟩ := hr
          rw [hbb] at q1
          injection q1 with q1
          subst q1
          obtain ⟨oo, p1, p2, p3, p4, p5⟩ := q3 v1
          subst p1
          obtain ⟨b1, b2, b3⟩ := loHi_rep (P := P) (isS := true) (cap := c) (len := n) ht hlo hhi hpq rfl p4
          refine ⟨_, w, φ, .inl (run _ n c p q rfl b1), hR, .refl, .sl _ _ _ _ _ _ _ ⟨bb, hbb, q2, fun _ => ?_⟩⟩
          have hsub : (c - p) * bb.esz = c * bb.esz - p * bb.esz := Nat.sub_mul ..
          have hpc : p * bb.esz ≤ c * bb.esz := Nat.mul_le_mul_right _ (by omega)
          by_cases hcp : c = p
          · refine ⟨oo, by rw [if_pos hcp], fun hc => by omega, by rw [← v2]; omega, by omega, fun m hm => ?_⟩
            rw [Option.map_eq_some_iff] at hm
            obtain ⟨y, hy, rfl⟩ := hm
            have := p5 y hy
            omega
          · refine ⟨oo + p * esz, by rw [if_neg hcp]; simp only [Option.map_some]; rw [add_none], fun hc => by have := p2 (by omega); omega, by rw [← v2]; omega, by omega, fun m hm => ?_⟩
            rw [Option.map_eq_some_iff] at hm
            obtain ⟨y, hy, rfl⟩ := hm
            have := p5 y hy
            omega
        · cases e
      · cases e
    · cases e

theorem s_app {A : Array TypeId} {ts u el : TypeId} {d : TypeDesc} {i : TypeInfo} {x y : Operand} {x' y' : X} (ho : o.op = .call { callee := .builtin .append, args := #[x, y], argTypes := A })
    (hA0 : A[0]? = some ts) (hA1 : A[1]? = some u) (hts : P.underlying ts = some (.slice el)) (hu : P.underlying u = some d) (hd : ∀ k, d ≠ .int k) (hi : P.info? el = some i)
    (hz : (i.zero.map fun z => z.cells.size) = some i.size) (hsz : 0 < i.size) (hby : 0 < i.bytes) (hby2 : i.bytes ≤ 2 ^ 20)
    (hx : compX x = some x') (hy : compX y = some y') (e : opA (.app i.size i.bytes x' y') (X.ev t) h nx = some r) : Sound P o a w w0 φ S h r := by
  unfold opA at e
  simp only at e
  have rx := evRep ht hx
  have ry := evRep ht hy
  generalize hvx : a.eval x = vx at rx
  generalize hvy : a.eval y = vy at ry
  obtain ⟨z, hzz, hzs⟩ : ∃ z, i.zero = some z ∧ z.cells.size = i.size := by
    rw [Option.map_eq_some_iff] at hz; exact hz
  -- the source
  have src : ∀ n new, (match y'.ev t with | .str s => if i.size = 1 then some (s.length, bytesV s) else none | v => elems h i.size v) = some (n, new) →
      new.length = n * i.size ∧ (Builtin.lenOf vy).run P w = .ok n w ∧ ∃ news : Array Value, (∀ w', w'.heap = w.heap → (Builtin.firstCells i.size n vy).run P w' = .ok news w') ∧ news.size = new.length ∧
      ∀ (i : Nat) c u, new[i]? = some c → news[i]? = some u → Rep φ h S w c u ∧ u.oneCell' = true := by
    intro n new hs
    split at hs
    · rename_i s h1
      rw [h1] at ry
      split at hs
      · rename_i hs1
        simp only [Option.some.injEq, Prod.mk.injEq] at hs
        obtain ⟨rfl, rfl⟩ := hs
        generalize hq : s = s' at ry
        cases ry
        subst hq
        rename_i q
        have hl : q.data.toList.length = q.size := by simp
        refine ⟨by rw [hs1]; simp [bytesV], by simp [Builtin.lenOf], (q.data.map fun b => Value.int .u8 b.toNat), fun w' _ => ?_, by simp [bytesV], fun i c u hc hu => ?_⟩
        · simp only [Builtin.firstCells, hl, Sem.run_pure]
          congr 1
          have : q.extract 0 q.size = q := by
            apply ByteArray.ext
            simp [ByteArray.data_extract]
          rw [this]
        · simp only [bytesV, List.getElem?_map, Option.map_eq_some_iff] at hc
          obtain ⟨b, hb, rfl⟩ := hc
          rw [Array.getElem?_map, Option.map_eq_some_iff] at hu
          obtain ⟨b', hb', rfl⟩ := hu
          have : q.data[i]? = some b := by simpa using hb
          rw [hb'] at this
          injection this with this
          subst this
          exact ⟨.int _ _, rfl⟩
      · cases hs
    · obtain ⟨⟨ad, c, rfl⟩, g1, news, g2, g3, g4⟩ := elems_rep (P := P) hR ry hs
      exact ⟨g1, by simp [Builtin.lenOf], news, g2, g3, g4⟩
  split at e
  · cases e
  · rename_i n new hnew
    obtain ⟨n1, n2, news, n3, n4, n5⟩ := src n new hnew
    have n3w := n3 w rfl
    have n3d := n3 w.drew rfl
    have hfit : ∀ need old, old < need → need * i.bytes ≤ 2 ^ 47 → Builtin.nextslicecap need old * i.bytes ≤ 281474976710656 := fun need old h1 h2 => growslice_fits h1 (by omega)
    have hex : ∀ vx : Value, ∀ res w', (Builtin.append_ A o.type #[vx, vy]).run P w = .ok res w' → a.eval x = vx → (execOp a.eval o).run P w = .ok (.value res) w' := by
      intro vx res w' hr hv
      simp [execOp, ho, hv, hvy, resolve, invoke, builtin, hr]
    have hm : (match d with | .int _ => true | _ => false) = false := by cases d <;> first | rfl | exact absurd rfl (hd _)
    have grow0 : ∀ (sa : Option Addr), (∀ w', (Builtin.firstCells i.size 0 (.slice sa 0 0)).run P w' = .ok #[] w') → vx = .slice sa 0 0 → n ≠ 0 → n * i.bytes ≤ 2 ^ 47 → n < 2 ^ 62 →
        Sound P o a w w0 φ S h ⟨.sl nx 0 0 n none, upd h nx (some ⟨0, i.size, new, none⟩), nx + 1, some (nx :: idOf (X.ev t y')), some [nx]⟩ ∨ nx + 1 ≤ nx ∨ h nx ≠ none := by
      intro sa hfo hvv h0 hq hq2
      by_cases hfn : h nx = none
      · left
        have hg := append_grow (P := P) (w := w) (A := A) (ty := o.type) hA0 hA1 hts hu hd hi hzz sa 0 0 n vy #[] news n2 (hfo _) n3d (by omega) (by omega) (by rw [Nat.zero_add]; exact hfit n 0 (by omega) hq) hby
        rw [Nat.zero_add] at hg
        have hge : n ≤ grownCap w n 0 el := grownCap_ge w n 0 el
        refine .newSlice (cap := grownCap w n 0 el) hR (below_drew_alloc _) hfn (Nat.le_refl _) (alloc_at (w := w.drew) _) ?_ (.inl rfl) ?_ ?_ hge (fun n hn => by cases hn) rfl rfl (hex _ _ _ hg (hvx.trans hvv))
        · simp; omega
        · intro j c v hc hv
          have hj : j < news.size := by rw [n4]; exact (List.getElem?_eq_some_iff.1 hc).1
          rw [Array.getElem?_append_left (by simpa using hj), Array.getElem?_append_right (by simp)] at hv
          exact n5 j c v hc (by simpa using hv)
        · simp [size_zeroCells, hzs, n4, n1, ← Nat.add_mul]
          rw [Nat.add_sub_cancel' hge]
          exact Nat.le_refl _
      · exact .inr (.inr hfn)
    have stay0 : ∀ (sa : Option Addr), (Builtin.firstCells i.size 0 vy).run P w = .ok #[] w → n = 0 → (Builtin.append_ A o.type #[.slice sa 0 0, vy]).run P w = .ok (.slice sa 0 0) w := by
      intro sa hfc h0
      subst h0
      cases sa <;> simp [Builtin.append_, hA0, hA1, run_underlying hts, run_underlying hu, sizeOf, typeInfo, hi, n2, hfc, hm, storeCells]
    split at e
    · rename_i h1
      rw [h1] at rx
      cases rx
      split at e
      · rename_i hq
        split at e
        · rename_i h0
          injection e with e
          subst e
          have hne : news = #[] := by apply Array.eq_empty_of_size_eq_zero; rw [n4, n1, h0]; omega
          subst hne
          exact ⟨.slice none 0 0, w, φ, .inl (hex _ _ _ (stay0 none (by rw [h0] at n3w; exact n3w) h0) hvx), hR, .refl, .ns⟩
        · rename_i h0
          injection e with e
          subst e
          rcases grow0 none (fun _ => run_firstCells_none _ _ _ _ _) rfl h0 hq.1 hq.2 with g | g | g
          · exact g
          · omega
          · exact absurd (hf nx (Nat.le_refl _) (Nat.lt_succ_self _)) g
      · cases e
    · rename_i h1
      rw [h1] at rx
      split at e
      · rename_i hq
        split at e
        · rename_i h0
          injection e with e
          subst e
          have hne : news = #[] := by apply Array.eq_empty_of_size_eq_zero; rw [n4, n1, h0]; omega
          subst hne
          cases rx
          · exact ⟨.slice none 0 0, w, φ, .inl (hex _ _ _ (stay0 none (by rw [h0] at n3w; exact n3w) h0) hvx), hR, .refl, .em0⟩
          · rename_i ad
            exact ⟨.slice (some ad) 0 0, w, φ, .inl (hex _ _ _ (stay0 (some ad) (by rw [h0] at n3w; exact n3w) h0) hvx), hR, .refl, .em _⟩
        · rename_i h0
          injection e with e
          subst e
          have fin := fun sa hfo hvv => grow0 sa hfo hvv h0 hq.1 hq.2
          cases rx
          · rcases fin none (fun _ => run_firstCells_none _ _ _ _ _) rfl with g | g | g
            · exact g
            · omega
            · exact absurd (hf nx (Nat.le_refl _) (Nat.lt_succ_self _)) g
          · rename_i ad
            rcases fin (some ad) (fun w' => by
              have := run_firstCells_some (P := P) w' i.size 0 ad 0 0 [] (by simp) (fun j u hu => by simp at hu)
              simpa using this) rfl with g | g | g
            · exact g
            · omega
            · exact absurd (hf nx (Nat.le_refl _) (Nat.lt_succ_self _)) g
      · cases e
    · rename_i id ver off len cap h1
      rw [h1] at rx
      split at e
      · rename_i bb hbb
        split at e
        · rename_i hq
          obtain ⟨v1, vm, v2, v4, v5, v6⟩ := hq
          injection e with e
          subst e
          cases rx
          rename_i ad c hr
          obtain ⟨b1, q1, q2, q3⟩ := hr
          rw [hbb] at q1
          injection q1 with q1
          subst q1
          obtain ⟨oo, p1, p2, p3, p4, p5⟩ := q3 v1
          subst p1
          obtain ⟨arr, elt, fz, z1, z2, z3, z4⟩ := (hR.blk _ _ hbb).at_ vm
          have hszo := szOf_at z1
          have holdl : ((bb.cells.drop off).take (len * i.size)).length = len * i.size := by simp; omega
          have holdg : ∀ j, j < len * i.size → ((bb.cells.drop off).take (len * i.size) ++ new)[j]? = bb.cells[off + j]? := fun j hj => by
            rw [List.getElem?_append_left (by omega), List.getElem?_take, if_pos hj, List.getElem?_drop]
          have hnewg : ∀ j, len * i.size ≤ j → ((bb.cells.drop off).take (len * i.size) ++ new)[j]? = new[j - len * i.size]? := fun j hj => by
            rw [List.getElem?_append_right (by omega), holdl]
          have hresl : ((bb.cells.drop off).take (len * i.size) ++ new).length = len * i.size + n * i.size := by rw [List.length_append, holdl, n1]
          by_cases hroom : len + n ≤ c
          · have hmul : (len + n) * i.size ≤ c * i.size := Nat.mul_le_mul_right _ hroom
            have hadd : (len + n) * i.size = len * i.size + n * i.size := Nat.add_mul ..
            rw [v2] at p3
            by_cases hc0 : c = 0
            · have h0 : n = 0 := by omega
              have hl0 : len = 0 := by omega
              subst hc0
              have hne : news = #[] := by apply Array.eq_empty_of_size_eq_zero; rw [n4, n1, h0]; omega
              subst hne
              have hr := stay0 (some ⟨(φ id).1, oo, none⟩) (by rw [h0] at n3w; exact n3w) h0
              rw [hl0] at hvx
              obtain ⟨g1, g2⟩ := hR.move (w' := w) (o := (φ id).2) (b' := ⟨ver + 1, i.size, (bb.cells.drop off).take (len * i.size) ++ new, none⟩) hbb (by simp; omega) rfl (fun _ _ _ => rfl) rfl rfl rfl (Nat.le_refl _) (.inr rfl) z1 (by rw [hresl, hl0, h0]; omega) (z3.imp_right fun q => ⟨q.1, v2 ▸ q.2⟩)
                (fun j c v hc hv => by
                  have := (List.getElem?_eq_some_iff.1 hc).1
                  rw [hresl, hl0, h0] at this
                  omega)
              refine ⟨_, w, _, .inl (hex _ _ _ hr hvx), g1, g2, ?_⟩
              rw [hl0, h0]
              exact .sl _ _ _ _ _ _ _ ⟨_, upd_self _ _ _, Nat.le_refl _, fun _ => ⟨oo, by rw [upd_self], fun hc => by omega, by rw [upd_self, hszo]; simp only; omega, Nat.le_refl _, fun m hm => by rw [if_pos rfl] at hm; exact p5 m hm⟩⟩
            · have hoo := p2 (by omega)
              subst hoo
              have hr := append_room (P := P) (w := w) (A := A) (ty := o.type) hA0 hA1 hts hu hd hi (φ id).1 ((φ id).2 + off) len c n vy news n2 n3w hroom z1 z3 (by omega) (fun j v hv => by
                have hj : j < new.length := by rw [← n4]; exact (Array.getElem?_eq_some_iff.1 hv).1
                exact (n5 j _ v (List.getElem?_eq_getElem hj) hv).2)
              obtain ⟨s1, s2, s3, s4⟩ := setCells_same news.toList w (φ id).1 ((φ id).2 + off + len * i.size)
              have hself := setCells_self news.toList w (φ id).1 ((φ id).2 + off + len * i.size) _ _ _ z1
              obtain ⟨g1, g2⟩ := hR.move (o := (φ id).2 + off) (b' := ⟨ver + 1, i.size, (bb.cells.drop off).take (len * i.size) ++ new, none⟩) hbb (by simp; omega) rfl (fun k _ hk => setCells_else news.toList w (φ id).1 ((φ id).2 + off + len * i.size) k hk) s2 s3 s4 (by omega) (.inr rfl) hself (by rw [hresl, putArr_size]; omega) (by rw [putArr_size]; exact z3.imp_right fun q => ⟨q.1, v2 ▸ q.2⟩)
                (fun j c v hc hv => by
                  rw [putArr_get _ _ _ _ (by simp; omega)] at hv
                  simp only [Array.length_toList, n4] at hv
                  by_cases hj : j < len * i.size
                  · rw [if_neg (by omega)] at hv
                    rw [holdg j hj] at hc
                    exact z4 _ c v hc (by rw [← Nat.add_assoc]; exact hv)
                  · rw [hnewg j (by omega)] at hc
                    have hj2 := (List.getElem?_eq_some_iff.1 hc).1
                    rw [if_pos (by omega), show (φ id).2 + off + j - ((φ id).2 + off + len * i.size) = j - len * i.size by omega] at hv
                    exact n5 _ c v hc (by simpa using hv))
              refine ⟨_, _, _, .inl (hex _ _ _ hr hvx), g1, g2, .sl _ _ _ _ _ _ _ ⟨_, upd_self _ _ _, Nat.le_refl _, fun _ => ⟨(φ id).2 + off, by rw [upd_self], fun _ => by rw [upd_self]; rfl, ?_, hroom, fun m hm => by
                split at hm
                · exact p5 m hm
                · cases hm⟩⟩⟩
              rw [upd_self, szOf_at hself, putArr_size]
              simp only
              omega
          · have hfo : ∃ olds : Array Value, (Builtin.firstCells i.size len (.slice (some ⟨(φ id).1, oo, none⟩) len c)).run P w.drew = .ok olds w.drew ∧ olds.size = len * i.size ∧
                ∀ (j : Nat) c u, ((bb.cells.drop off).take (len * i.size))[j]? = some c → olds[j]? = some u → Rep φ h S w c u ∧ u.oneCell' = true := by
              have rxx : Rep φ h S w (.sl id ver off len cap) (.slice (some ⟨(φ id).1, oo, none⟩) len c) := .sl _ _ _ _ _ _ _ ⟨bb, hbb, q2, fun _ => ⟨oo, rfl, p2, p3, p4, p5⟩⟩
              have hel : elems h i.size (.sl id ver off len cap) = some (len, (bb.cells.drop off).take (len * i.size)) := by
                simp only [elems, hbb]
                rw [if_pos ⟨v1, vm, v2, by omega⟩]
              obtain ⟨_, k1, olds, k2, k3, k4⟩ := elems_rep (P := P) hR rxx hel
              exact ⟨olds, k2 w.drew rfl, by rw [k3, holdl], k4⟩
            obtain ⟨olds, o1, o2, o3⟩ := hfo
            have hg := append_grow (P := P) (w := w) (A := A) (ty := o.type) hA0 hA1 hts hu hd hi hzz _ len c n vy olds news n2 o1 n3d (by omega) (by omega) (hfit _ _ (by omega) v5) hby
            have hge : len + n ≤ grownCap w (len + n) c el := grownCap_ge w (len + n) c el
            have hsz2 : (olds ++ news ++ Builtin.zeroCells z.cells (grownCap w (len + n) c el - (len + n))).size = grownCap w (len + n) c el * i.size := by
              simp only [Array.size_append, size_zeroCells, hzs, n4, n1, o2, ← Nat.add_mul]
              rw [Nat.add_sub_cancel' hge]
            have hbel := below_drew_alloc (w := w) (.cells (olds ++ news ++ Builtin.zeroCells z.cells (grownCap w (len + n) c el - (len + n))) el)
            obtain ⟨g1, g2⟩ := hR.move (o := 0) (b' := ⟨ver + 1, i.size, (bb.cells.drop off).take (len * i.size) ++ new, none⟩) hbb (by simp; omega) rfl (fun k hk _ => hbel.block k hk) hbel.os hbel.tape hbel.output hbel.size (.inl (Nat.le_refl _)) (alloc_at (w := w.drew) _) (by rw [hresl, hsz2, ← Nat.add_mul, Nat.zero_add]; exact Nat.mul_le_mul_right _ hge) (.inl rfl)
              (fun j c v hc hv => by
                rw [Nat.zero_add] at hv
                by_cases hj : j < len * i.size
                · rw [List.getElem?_append_left (by omega)] at hc
                  rw [Array.getElem?_append_left (by simp; omega), Array.getElem?_append_left (by omega)] at hv
                  exact o3 j c v hc hv
                · rw [hnewg j (by omega)] at hc
                  have hj2 := (List.getElem?_eq_some_iff.1 hc).1
                  rw [Array.getElem?_append_left (by simp; omega), Array.getElem?_append_right (by omega), o2] at hv
                  exact n5 _ c v hc hv)
            refine ⟨_, _, upd φ id (w.heap.size, 0), .inl (hex _ _ _ hg hvx), g1, g2, .sl _ _ _ _ _ _ _ ⟨_, upd_self _ _ _, Nat.le_refl _, fun _ => ⟨0, by rw [upd_self], fun _ => by rw [upd_self], ?_, hge, fun m hm => by
              rw [if_neg (by omega)] at hm
              cases hm⟩⟩⟩
            have hat : (w.drew.alloc (.cells (olds ++ news ++ Builtin.zeroCells z.cells (grownCap w (len + n) c el - (len + n))) el)).heap[w.heap.size]? = some (.cells (olds ++ news ++ Builtin.zeroCells z.cells (grownCap w (len + n) c el - (len + n))) el) := alloc_at (w := w.drew) _
            rw [upd_self, szOf_at hat, hsz2]
            simp only
            omega
        · cases e
      · cases e
    · cases e
end
end Go.Ex
