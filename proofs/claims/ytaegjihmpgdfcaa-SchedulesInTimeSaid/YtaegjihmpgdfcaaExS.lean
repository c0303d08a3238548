/- '==' of structs, cell by cell. -/
import Derived.Test.YtaegjihmpgdfcaaExG
import Derived.Laws.StructEq
set_option linter.unusedVariables false
set_option linter.unusedSimpArgs false
namespace Go.Ex
open Go.RowKit
section
variable {φ : Nat → Nat × Nat} {h : Hp} {S : Nat → Prop} {w w0 : World} {P : Program} {a : Act} {o : Oper} {t : Nat → V}
theorem eqCells_cons {c d : V} {cs ds : List V} {e : Bool} (he : eqCells (c :: cs) (d :: ds) = some e) : ∃ e1 e2, eqCells [c] [d] = some e1 ∧ eqCells cs ds = some e2 ∧ e = (e1 && e2) := by
  cases c <;> cases d <;> simp only [eqCells] at he ⊢ <;> first | (cases he; done) | skip
  · split at he
    · rename_i hk
      rw [Option.map_eq_some_iff] at he
      obtain ⟨e2, h2, rfl⟩ := he
      exact ⟨_, e2, by rw [if_pos hk]; rfl, h2, by simp⟩
    · cases he
  · rw [Option.map_eq_some_iff] at he
    obtain ⟨e2, h2, rfl⟩ := he
    exact ⟨_, e2, rfl, h2, by simp⟩
  · rw [Option.map_eq_some_iff] at he
    obtain ⟨e2, h2, rfl⟩ := he
    exact ⟨_, e2, rfl, h2, by simp⟩
theorem eqCells_split : ∀ (n : Nat) {cs ds : List V} {e : Bool}, eqCells cs ds = some e → ∃ e1 e2, eqCells (cs.take n) (ds.take n) = some e1 ∧ eqCells (cs.drop n) (ds.drop n) = some e2 ∧ e = (e1 && e2)
  | 0, cs, ds, e, he => ⟨true, e, rfl, by simpa using he, by simp⟩
  | n + 1, [], [], e, he => ⟨true, e, rfl, by simpa using he, by simp⟩
  | n + 1, [], d :: ds, e, he => by simp [eqCells] at he
  | n + 1, c :: cs, [], e, he => by cases c <;> simp [eqCells] at he
  | n + 1, c :: cs, d :: ds, e, he => by
    obtain ⟨e1, e2, h1, h2, rfl⟩ := eqCells_cons he
    obtain ⟨f1, f2, g1, g2, rfl⟩ := eqCells_split n h2
    refine ⟨e1 && f1, f2, ?_, g2, by rw [Bool.and_assoc]⟩
    simp only [List.take_succ_cons]
    unfold eqCells at h1 ⊢
    split at h1 <;> first | (rename_i q1 q2; cases q1; done) | skip
    all_goals first
      | (rename_i q1 q2; cases q1; cases q2
         split at h1
         · rename_i hk
           simp only [eqCells, Option.map_some, Option.some.injEq, Bool.and_true] at h1
           simp [hk, g1, h1]
         · cases h1)
      | (rename_i q1 q2; cases q1; cases q2
         simp only [eqCells, Option.map_some, Option.some.injEq, Bool.and_true] at h1
         simp [g1, h1])
      | (cases h1; done)
/-- The cells of two structs, from a place on. -/
structure CellsAt (φ : Nat → Nat × Nat) (h : Hp) (S : Nat → Prop) (w : World) (xs : Array Value) (off : Nat) (cs : List V) : Prop where
  le : off + cs.length ≤ xs.size
  rep : ∀ (i : Nat) c v, cs[i]? = some c → xs[off + i]? = some v → Rep φ h S w c v
theorem CellsAt.one {xs : Array Value} {off : Nat} {c : V} (hx : CellsAt φ h S w xs off [c]) : ∃ v, xs[off]? = some v ∧ Rep φ h S w c v := by
  have := hx.le
  simp at this
  have hv : xs[off]? = some xs[off] := Array.getElem?_eq_getElem (by omega)
  exact ⟨_, hv, hx.rep 0 c _ rfl (by simp)⟩
theorem run_eq_one {D : Nat} {ty : TypeId} {c d : V} {x y : Value} {e : Bool} (hx : Rep φ h S w c x) (hy : Rep φ h S w d y) (he : eqCells [c] [d] = some e)
    (hty : tagOf c = 0 → ∃ q, P.underlying ty = some (.int q)) (hty2 : tagOf c = 1 → P.underlying ty = some .bool) (hty3 : tagOf c = 2 → P.underlying ty = some .string) :
    (Op.equalIn (D + 1) ty x y).run P w = .ok e w := by
  cases c <;> cases d <;> simp only [eqCells] at he <;> first | (cases he; done) | skip
  · split at he
    · rename_i hk
      subst hk
      simp only [Option.map_some, Option.some.injEq, Bool.and_true] at he
      subst he
      cases hx; cases hy
      obtain ⟨q, hq⟩ := hty rfl
      exact run_equalIn_int w D ty _ q _ _ hq
    · cases he
  · simp only [Option.map_some, Option.some.injEq, Bool.and_true] at he
    subst he
    cases hx; cases hy
    exact run_equalIn_bool' w D ty _ _ (hty2 rfl)
  · rename_i s1 s2
    simp only [Option.map_some, Option.some.injEq, Bool.and_true] at he
    subst he
    generalize hs1 : s1 = t1 at hx
    generalize hs2 : s2 = t2 at hy
    have hs := hty3 rfl
    cases hx; cases hy
    subst hs1; subst hs2
    rw [run_equalIn_string w D ty _ _ hs]
    rw [ByteArray.toList_eq, ByteArray.toList_eq]
theorem CellsAt.agg {xs : Array Value} {off n : Nat} {cs : List V} (hx : CellsAt φ h S w xs off cs) (hn : cs.length = n) : CellsAt φ h S w (xs.extract off (off + n)) 0 cs := by
  have := hx.le
  refine ⟨by simp; omega, fun i c v hc hv => ?_⟩
  rw [Nat.zero_add, Array.getElem?_extract] at hv
  split at hv
  · exact hx.rep i c v hc hv
  · cases hv
theorem CellsAt.take {xs : Array Value} {off : Nat} {cs : List V} (hx : CellsAt φ h S w xs off cs) (n : Nat) : CellsAt φ h S w xs off (cs.take n) := by
  have := hx.le
  refine ⟨by simp; omega, fun i c v hc hv => ?_⟩
  rw [List.getElem?_take] at hc
  split at hc
  · exact hx.rep i c v hc hv
  · cases hc
theorem CellsAt.drop {xs : Array Value} {off : Nat} {cs : List V} (hx : CellsAt φ h S w xs off cs) (n : Nat) (hn : n ≤ cs.length) : CellsAt φ h S w xs (off + n) (cs.drop n) := by
  have := hx.le
  refine ⟨by simp; omega, fun i c v hc hv => ?_⟩
  rw [List.getElem?_drop] at hc
  rw [Nat.add_assoc] at hv
  exact hx.rep _ c v hc hv
/-- What '==' says of parts of two structs. -/
def EqOk (P : Program) (φ : Nat → Nat × Nat) (h : Hp) (S : Nat → Prop) (w : World) (d : Nat) (ty : TypeId) (tags : List Nat) : Prop :=
  ∀ (D : Nat) (xs ys : Array Value) (off : Nat) (cs ds : List V) (e : Bool), d ≤ D → szT P ty = some tags.length → CellsAt φ h S w xs off cs → CellsAt φ h S w ys off ds → cs.map tagOf = tags → eqCells cs ds = some e →
    ∃ x y, (part ty xs off).run P w = .ok x w ∧ (part ty ys off).run P w = .ok y w ∧ (Op.equalIn D ty x y).run P w = .ok e w
theorem eqCells_len : ∀ {cs ds : List V} {e : Bool}, eqCells cs ds = some e → cs.length = ds.length
  | [], [], _, _ => rfl
  | [], _ :: _, _, he => by simp [eqCells] at he
  | c :: cs, [], _, he => by cases c <;> simp [eqCells] at he
  | c :: cs, d :: ds, e, he => by
    obtain ⟨_, _, _, h2, _⟩ := eqCells_cons he
    simp [eqCells_len h2]
theorem eqFs_ok {d : Nat} (hlay : ∀ ty tags, eqLay P d ty = some tags → EqOk P φ h S w d ty tags) : ∀ (fs : List Field) (off : Nat) (tags : List Nat) (D : Nat) (xs ys : Array Value) (cs ds : List V) (e : Bool), d ≤ D → eqFs P (eqLay P d) off fs = some tags →
    CellsAt φ h S w xs off cs → CellsAt φ h S w ys off ds → cs.map tagOf = tags → eqCells cs ds = some e → (Op.eqFields D xs ys fs).run P w = .ok e w
  | [], off, tags, D, xs, ys, cs, ds, e, hD, ht, hx, hy, hc, he => by
    simp [eqFs] at ht
    subst ht
    have : cs = [] := by simpa using hc
    subst this
    cases ds with
    | nil => simp [eqCells] at he; subst he; simp [Op.eqFields]
    | cons _ _ => simp [eqCells] at he
  | f :: fs, off, tags, D, xs, ys, cs, ds, e, hD, ht, hx, hy, hc, he => by
    unfold eqFs at ht
    split at ht
    · rename_i hq
      obtain ⟨q1, q2⟩ := hq
      split at ht
      · rename_i l hl
        split at ht
        · rename_i hsz
          rw [Option.map_eq_some_iff] at ht
          obtain ⟨rest, hrest, rfl⟩ := ht
          obtain ⟨e1, e2, h1, h2, rfl⟩ := eqCells_split l.length he
          have hcl : cs.length = l.length + rest.length := by
            have := congrArg List.length hc
            simpa using this
          have hdl := eqCells_len he
          obtain ⟨x, y, p1, p2, p3⟩ := hlay _ _ hl D xs ys off _ _ e1 hD hsz (hx.take l.length) (hy.take l.length) (by rw [List.map_take, hc]; simp) h1
          have ih := eqFs_ok hlay fs (off + l.length) rest D xs ys _ _ e2 hD hrest (hx.drop l.length (by omega)) (hy.drop l.length (by omega)) (by rw [List.map_drop, hc]; simp) h2
          rw [Op.eqFields]
          rw [if_pos q1]
          rw [q2]
          simp only [Sem.run_bind, p1, p2, p3, Result.andThen_ok]
          cases e1
          · simp
          · simpa using ih
        · cases ht
      · cases ht
    · cases ht
theorem eqLay_ok : ∀ (d : Nat) (ty : TypeId) (tags : List Nat), eqLay P d ty = some tags → EqOk P φ h S w d ty tags
  | 0, _, _, e => by cases e
  | d + 1, ty, tags, e => by
    have one : ∀ {g : Nat}, tags = [g] → aggT P ty = some false → (∀ {c : V}, tagOf c = g → (tagOf c = 0 → ∃ q, P.underlying ty = some (.int q)) ∧ (tagOf c = 1 → P.underlying ty = some .bool) ∧ (tagOf c = 2 → P.underlying ty = some .string)) → EqOk P φ h S w (d + 1) ty tags := by
      intro g hg ha hty D xs ys off cs ds e hD hs hx hy hc he
      subst hg
      obtain ⟨c, rfl⟩ : ∃ c, cs = [c] := by
        cases cs with
        | nil => simp at hc
        | cons c cs => cases cs with | nil => exact ⟨c, rfl⟩ | cons _ _ => simp at hc
      obtain ⟨d', rfl⟩ : ∃ c, ds = [c] := by
        have := eqCells_len he
        cases ds with
        | nil => simp at this
        | cons c cs => cases cs with | nil => exact ⟨c, rfl⟩ | cons _ _ => simp at this
      obtain ⟨x, x1, x2⟩ := hx.one
      obtain ⟨y, y1, y2⟩ := hy.one
      obtain ⟨D', rfl⟩ : ∃ D', D = D' + 1 := ⟨D - 1, by omega⟩
      simp at hc
      obtain ⟨t1, t2, t3⟩ := hty hc
      exact ⟨x, y, by simp [part, run_isAgg' ha, x1], by simp [part, run_isAgg' ha, y1], run_eq_one x2 y2 he t1 t2 t3⟩
    unfold eqLay at e
    split at e
    · rename_i hu
      injection e with e
      exact one e.symm (by simp [aggT, hu]) fun hc => ⟨fun _ => ⟨_, hu⟩, fun h => by omega, fun h => by omega⟩
    · rename_i hu
      injection e with e
      exact one e.symm (by simp [aggT, hu]) fun hc => ⟨fun h => by omega, fun _ => hu, fun h => by omega⟩
    · rename_i hu
      injection e with e
      exact one e.symm (by simp [aggT, hu]) fun hc => ⟨fun h => by omega, fun h => by omega, fun _ => hu⟩
    · rename_i fs hu
      split at e
      · rename_i hst
        intro D xs ys off cs ds eq hD hs hx hy hc he
        have ha : aggT P ty = some true := by simp [aggT, hu]
        obtain ⟨D', rfl⟩ : ∃ D', D = D' + 1 := ⟨D - 1, by omega⟩
        have hcl : cs.length = tags.length := by have := congrArg List.length hc; simpa using this
        have hdl := eqCells_len he
        refine ⟨.agg (xs.extract off (off + tags.length)), .agg (ys.extract off (off + tags.length)), by simp [part, run_isAgg' ha, run_sizeOf' hs], by simp [part, run_isAgg' ha, run_sizeOf' hs], ?_⟩
        have hf : P.fieldsOf ty = fs := by simp [Program.fieldsOf, hu]
        rw [run_equalIn_struct (P := P) w D' ty _ _ (by rw [hf]; exact hu) hst, hf]
        exact eqFs_ok (fun ty tags => eqLay_ok d ty tags) fs.toList 0 tags D' _ _ cs ds eq (by omega) e (hx.agg hcl) (hy.agg (by omega)) hc he
      · cases e
    · cases e
variable {r : R} {nx : Nat} (hR : Rel P w0 φ S h w) (ht : ∀ n, Rep φ h S w (t n) (a.tmps.getD n undef))
include hR ht
theorem s_seq {op : BinOp} {neg : Bool} {tags : List Nat} {ty yt : TypeId} {fs : Array Field} {x y : Operand} {x' y' : X} (ho : o.op = .binOp op ty x y yt) (hop : op = if neg then .neq else .eql) (hty : P.underlying ty = some (.struct fs)) (he : eqT P ty = some tags) (hx : compX x = some x') (hy : compX y = some y')
    (e : opA (.seq neg tags x' y') (X.ev t) h nx = some r) : Sound P o a w w0 φ S h r := by
  unfold opA at e
  simp only at e
  have rx := evRep ht hx
  have ry := evRep ht hy
  generalize hvx : a.eval x = vx at rx
  generalize hvy : a.eval y = vy at ry
  split at e
  · rename_i cs ds h1 h2
    rw [h1] at rx
    rw [h2] at ry
    split at e
    · rename_i htags
      cases rx
      cases ry
      rename_i xs p1 p2 p3 ys q1 q2 q3
      cases heq : eqCells cs ds with
      | none => rw [heq] at e; simp [ret0] at e
      | some b =>
        refine .pure (x := .bool (if neg then !b else b)) hR e fun u' hu' => ?_
        rw [heq] at hu'
        injection hu' with hu'
        subst hu'
        refine ⟨?_, .bool _⟩
        unfold eqT at he
        split at he
        · rename_i hg
          unfold eqLay at he
          rw [hty] at he
          simp only at he
          split at he
          · rename_i hst
            have hf : P.fieldsOf ty = fs := by simp [Program.fieldsOf, hty]
            have hrun : (Op.equalIn 10000 ty (.agg xs) (.agg ys)).run P w = .ok b w := by
              rw [show 10000 = 9999 + 1 from rfl, run_equalIn_struct (P := P) w 9999 ty _ _ (by rw [hf]; exact hty) hst, hf]
              exact eqFs_ok (fun ty tags => eqLay_ok 7 ty tags) fs.toList 0 tags 9999 xs ys cs ds b (by omega) he ⟨by omega, fun i c v hc hv => p3 i c v hc (by simpa using hv)⟩ ⟨by omega, fun i c v hc hv => q3 i c v hc (by simpa using hv)⟩ htags heq
            subst hop
            cases neg <;> simp [execOp, ho, hvx, hvy, run_eqGuard_agg w _ ty x y xs ys hg, run_eql_struct, run_neq_struct, hrun]
          · cases he
        · cases he
    · cases e
  · cases e
end
end Go.Ex
