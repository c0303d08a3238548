/- What the small operations compute is what the model's operations come to: those that only compute. -/
import Derived.Test.YtaegjihmpgdfcaaExC
import Derived.BigRegion
import Derived.Laws.Strings
import Derived.Lib.MinMax
set_option linter.unusedVariables false
set_option linter.unusedSimpArgs false
namespace Go.Ex
open Go.RowKit
section
variable {φ : Nat → Nat × Nat} {h : Hp} {S : Nat → Prop} {w w0 : World} {P : Program} {a : Act} {o : Oper} {t : Nat → V} {sh : Nat → Bool}
theorem ofVal1_rep {v : Value} {c : V} (e : ofVal1 v = some c) : Rep φ h S w c v ∧ v.oneCell' = true := by
  unfold ofVal1 at e
  split at e <;> first | (cases e; done) | skip
  all_goals (injection e with e; subst e; refine ⟨?_, rfl⟩; constructor)
theorem mapM_at {α β : Type} {f : α → Option β} : ∀ {l : List α} {m : List β}, l.mapM f = some m → l.length = m.length ∧ ∀ (i : Nat) x y, l[i]? = some x → m[i]? = some y → f x = some y
  | [], m, e => by simp at e; subst e; exact ⟨rfl, fun i x y a => by simp at a⟩
  | x :: l, m, e => by
    simp only [List.mapM_cons, Option.bind_eq_bind, Option.bind_eq_some_iff, Option.pure_def, Option.some.injEq] at e
    obtain ⟨y, hy, m', hm, rfl⟩ := e
    obtain ⟨h1, h2⟩ := mapM_at hm
    refine ⟨by simp [h1], fun i u v a b => ?_⟩
    cases i with
    | zero => simp at a b; subst a; subst b; exact hy
    | succ i => exact h2 i u v (by simpa using a) (by simpa using b)
theorem ofVal_rep {v : Value} {c : V} (e : ofVal v = some c) : Rep φ h S w c v := by
  unfold ofVal at e
  split at e
  · rename_i cs
    rw [Option.map_eq_some_iff] at e
    obtain ⟨l, hl, rfl⟩ := e
    obtain ⟨h1, h2⟩ := mapM_at hl
    refine .agg _ _ (by simpa using h1) (fun i v hv => ?_) (fun i c v hc hv => (ofVal1_rep (h2 i v c (by simpa using hv) hc)).1)
    have hi : i < l.length := by
      have := (Array.getElem?_eq_some_iff.1 hv).1
      simp at h1; omega
    exact (ofVal1_rep (φ := φ) (h := h) (S := S) (w := w) (h2 i v l[i] (by simpa using hv) (List.getElem?_eq_getElem hi))).2
  · exact (ofVal1_rep e).1
theorem evRep (ht : ∀ n, Rep φ h S w (t n) (a.tmps.getD n undef)) {x : Operand} {y : X} (e : compX x = some y) : Rep φ h S w (y.ev t) (a.eval x) := by
  unfold compX at e
  split at e
  · injection e with e; subst e; exact ht _
  · rw [Option.map_eq_some_iff] at e
    obtain ⟨c, hc, rfl⟩ := e
    exact ofVal_rep hc
  · injection e with e; subst e
    exact .fn _ _ _ rfl (fun i c v hc => by simp at hc)
  · cases e
/-- What is to be shown of an operation. -/
def Sound (P : Program) (o : Oper) (a : Act) (w w0 : World) (φ : Nat → Nat × Nat) (S : Nat → Prop) (h : Hp) (r : R) : Prop :=
  ∃ x w' φ', ((execOp a.eval o).run P w = .ok (.value x) w' ∨ ((execOp a.eval o).run P w = .ok .skip w' ∧ x = undef)) ∧
    Rel P w0 φ' S r.h w' ∧ Ext φ h S w φ' r.h S w' ∧ Rep φ' r.h S w' r.v x
/-- The same, where more may come to be only read. -/
def Sound' (P : Program) (o : Oper) (a : Act) (w w0 : World) (φ : Nat → Nat × Nat) (S : Nat → Prop) (h : Hp) (r : R) : Prop :=
  ∃ x w' φ' S', ((execOp a.eval o).run P w = .ok (.value x) w' ∨ ((execOp a.eval o).run P w = .ok .skip w' ∧ x = undef)) ∧
    Rel P w0 φ' S' r.h w' ∧ Ext φ h S w φ' r.h S' w' ∧ (∀ b, S' b → b < w0.heap.size → S b) ∧ Rep φ' r.h S' w' r.v x
theorem Sound.up {P : Program} {o : Oper} {a : Act} {w w0 : World} {φ : Nat → Nat × Nat} {S : Nat → Prop} {h : Hp} {r : R} (s : Sound P o a w w0 φ S h r) : Sound' P o a w w0 φ S h r := by
  obtain ⟨x, w', φ', h1, h2, h3, h4⟩ := s
  exact ⟨x, w', φ', S, h1, h2, h3, fun _ h _ => h, h4⟩
theorem Sound.pure {nx : Nat} {v : Option V} {r : R} {x : Value} (hR : Rel P w0 φ S h w) (e : ret0 h nx v = some r)
    (hx : ∀ u, v = some u → (execOp a.eval o).run P w = .ok (.value x) w ∧ Rep φ h S w u x) : Sound P o a w w0 φ S h r := by
  unfold ret0 at e
  rw [Option.map_eq_some_iff] at e
  obtain ⟨u, hu, rfl⟩ := e
  obtain ⟨h1, h2⟩ := hx u hu
  exact ⟨x, w, φ, .inl h1, hR, .refl, h2⟩
theorem comp1_eq {f : X → Cop} {x : Operand} {c : Cop} (e : comp1 P f x = some c) : ∃ y, compX x = some y ∧ c = f y := by
  unfold comp1 at e; rw [Option.map_eq_some_iff] at e; obtain ⟨y, h1, h2⟩ := e; exact ⟨y, h1, h2.symm⟩
theorem comp2_eq {f : X → X → Cop} {x y : Operand} {c : Cop} (e : comp2 P f x y = some c) : ∃ u v, compX x = some u ∧ compX y = some v ∧ c = f u v := by
  unfold comp2 at e
  split at e
  · rename_i u v h1 h2; injection e with e; exact ⟨u, v, h1, h2, e.symm⟩
  · cases e
theorem run_intA {op : BinOp} {ty : TypeId} {k : IntKind} {a b : Int} {u : V} (hs : op ≠ .shl) (hs' : op ≠ .shr) (e : intA op k a b = some u) :
    ∃ x, Rep φ h S w u x ∧ (binOp op ty (.int k a) (.int k b)).run P w = .ok x w := by
  cases op <;> simp only [intA] at e <;> first
    | exact absurd rfl hs
    | exact absurd rfl hs'
    | (injection e with e; subst e; exact ⟨_, by constructor, by simp [binOp, Op.intArith, Op.intBits, Op.intCmp]⟩)
    | (split at e
       · cases e
       · injection e with e; subst e; exact ⟨_, by constructor, by simp [binOp, Op.intDiv, *]⟩)
theorem run_binInt {op : BinOp} {ty : TypeId} {k k' : IntKind} {a b : Int} {u : V} (e : binA op (.int k a) (.int k' b) = some u) : ∃ x, Rep φ h S w u x ∧ (binOp op ty (.int k a) (.int k' b)).run P w = .ok x w := by
  unfold binA at e
  simp only at e
  split at e
  · split at e
    · cases e
    · injection e with e; subst e; exact ⟨_, .int _ _, by simp [binOp, Op.shift, *]⟩
  · split at e
    · cases e
    · injection e with e; subst e; exact ⟨_, .int _ _, by simp [binOp, Op.shift, *]⟩
  · split at e
    · rename_i hk; subst hk; exact run_intA (by assumption) (by assumption) e
    · cases e
theorem run_binStr {op : BinOp} {ty : TypeId} {a b : ByteArray} {u : V} (e : binA op (.str a.data.toList) (.str b.data.toList) = some u) : ∃ x, Rep φ h S w u x ∧ (binOp op ty (.string a) (.string b)).run P w = .ok x w := by
  simp only [binA] at e
  cases op <;> simp only [strA] at e <;> first
    | (injection e with e; subst e; exact ⟨_, by constructor, by simp [binOp, Op.stringOp, ByteArray.toList_eq]⟩)
    | (split at e
       · cases e
       · rename_i hn
         injection e with e; subst e
         refine ⟨.string (a ++ b), ?_, ?_⟩
         · rw [show a.data.toList ++ b.data.toList = (a ++ b).data.toList by simp]; exact .str _
         · have : ¬ ((a.size + b.size : Nat) : Int) > IntKind.i64.max := by
             have e1 : a.data.toList.length = a.size := by simp
             have e2 : b.data.toList.length = b.size := by simp
             rw [e1, e2] at hn
             have : IntKind.i64.max = 9223372036854775807 := by decide
             omega
           simp only [binOp, Op.stringOp]
           rw [if_neg this]; rfl)
    | (cases e; done)
theorem run_unA {op : UnOp} {v : V} {x : Value} {u : V} (hv : Rep φ h S w v x) (e : unA op v = some u) : ∃ y, Rep φ h S w u y ∧ (Op.unary op x).run P w = .ok y w := by
  unfold unA at e
  split at e
  · cases hv; injection e with e; subst e; exact ⟨_, .int _ _, rfl⟩
  · cases hv; injection e with e; subst e; exact ⟨_, .int _ _, rfl⟩
  · cases hv; injection e with e; subst e; exact ⟨_, .bool _, rfl⟩
  · cases e
theorem run_eqGuard {op : BinOp} {ty : TypeId} {x y : Operand} {a b : Value} (ha : ∀ c, a ≠ .agg c) (hn : a ≠ .nilIface) : (eqGuard op ty x y a b).run P w = .ok () w := by
  cases a <;> first | exact absurd rfl hn | exact absurd rfl (ha _) | (cases b <;> cases op <;> rfl)
theorem run_sizeOf' {ty : TypeId} {n : Nat} (hn : szT P ty = some n) (w : World) : (sizeOf ty).run P w = .ok n w := by
  unfold szT at hn
  rw [Option.map_eq_some_iff] at hn
  obtain ⟨i, h1, h2⟩ := hn
  simp [sizeOf, typeInfo, h1, h2]
theorem run_isAgg' {ty : TypeId} {b : Bool} (hn : aggT P ty = some b) (w : World) : (isAgg ty).run P w = .ok b w := by
  unfold aggT at hn
  rw [Option.map_eq_some_iff] at hn
  obtain ⟨d, h1, h2⟩ := hn
  subst h2
  simp only [isAgg, Sem.run_bind, run_underlying h1, Result.andThen_ok]
  cases d <;> rfl
theorem bytes_get (s : ByteArray) (n : Nat) : s[n]? = s.data.toList[n]? := by
  by_cases hn : n < s.size
  · rw [ByteArray.getElem?_lt' s n hn]
    have : n < s.data.toList.length := by simpa using hn
    rw [List.getElem?_eq_getElem this]
    rfl
  · rw [ByteArray.getElem?_ge' s n hn]
    have : ¬ n < s.data.toList.length := by simpa using hn
    rw [List.getElem?_eq_none (by omega)]
theorem add_none (p q n : Nat) : Addr.add ⟨p, q, none⟩ n = ⟨p, q + n, none⟩ := by
  unfold Addr.add
  split
  · rename_i z; rw [z]; rfl
  · rfl
variable {r : R} {nx : Nat} (hR : Rel P w0 φ S h w) (ht : ∀ n, Rep φ h S w (t n) (a.tmps.getD n undef))
include hR ht
theorem s_mov {x : Operand} {y : X} (hx : compX x = some y) (ho : o.op = .move x ∨ o.op = .assign x) (e : opA (.mov y) (X.ev t) h nx = some r) : Sound P o a w w0 φ S h r := by
  unfold opA at e
  refine .pure (x := a.eval x) hR e fun u hu => ?_
  injection hu with hu
  subst hu
  refine ⟨?_, evRep ht hx⟩
  rcases ho with ho | ho
  · simp [execOp, ho]
  · simp [execOp, ho]
theorem s_pick {c x y : Operand} {c' x' y' : X} (hc : compX c = some c') (hx : compX x = some x') (hy : compX y = some y') (ho : o.op = .pick c x y)
    (e : opA (.pick c' x' y') (X.ev t) h nx = some r) : Sound P o a w w0 φ S h r := by
  unfold opA at e
  have rc := evRep ht hc
  simp only at e
  split at e
  · rename_i b hb
    rw [hb] at rc
    generalize hv : a.eval c = vc at rc
    cases rc
    refine .pure (x := if b then a.eval x else a.eval y) hR e fun u hu => ?_
    injection hu with hu
    subst hu
    refine ⟨?_, ?_⟩
    · simp [execOp, ho, hv, asBool]
    · split
      · exact evRep ht hx
      · exact evRep ht hy
  · cases e
theorem s_bin {op : BinOp} {ty yt : TypeId} {x y : Operand} {x' y' : X} (ho : o.op = .binOp op ty x y yt) (hx : compX x = some x') (hy : compX y = some y')
    (e : opA (.bin op x' y') (X.ev t) h nx = some r) : Sound P o a w w0 φ S h r := by
  unfold opA at e
  simp only at e
  have rx := evRep ht hx
  have ry := evRep ht hy
  generalize hvx : a.eval x = vx at rx
  generalize hvy : a.eval y = vy at ry
  cases hb : binA op (X.ev t x') (X.ev t y') with
  | none => rw [hb] at e; simp [ret0] at e
  | some u =>
    have hb0 := hb
    unfold binA at hb
    split at hb
    · rename_i k p k' q h1 h2
      rw [h1, h2] at hb0
      rw [h1] at rx
      rw [h2] at ry
      cases rx
      cases ry
      obtain ⟨z, z1, z2⟩ := run_binInt (φ := φ) (h := h) (S := S) (P := P) (w := w) (ty := ty) hb0
      refine .pure (x := z) hR e fun u' hu' => ?_
      rw [h1, h2, hb0] at hu'
      injection hu' with hu'
      subst hu'
      exact ⟨by simp [execOp, ho, hvx, hvy, run_eqGuard, z2], z1⟩
    · rename_i p q h1 h2
      rw [h1, h2] at hb0
      rw [h1] at rx
      rw [h2] at ry
      generalize hp : p = p' at rx
      generalize hq : q = q' at ry
      cases rx
      cases ry
      subst hp
      subst hq
      obtain ⟨z, z1, z2⟩ := run_binStr (φ := φ) (h := h) (S := S) (P := P) (w := w) (ty := ty) hb0
      refine .pure (x := z) hR e fun u' hu' => ?_
      rw [h1, h2, hb0] at hu'
      injection hu' with hu'
      subst hu'
      exact ⟨by simp [execOp, ho, hvx, hvy, run_eqGuard, z2], z1⟩
    · cases hb
theorem s_beq {op : BinOp} {neg : Bool} {ty yt : TypeId} {x y : Operand} {x' y' : X} (ho : o.op = .binOp op ty x y yt) (hop : op = if neg then .neq else .eql) (hty : P.underlying ty = some .bool) (hx : compX x = some x') (hy : compX y = some y')
    (e : opA (.beq neg x' y') (X.ev t) h nx = some r) : Sound P o a w w0 φ S h r := by
  unfold opA at e
  simp only at e
  have rx := evRep ht hx
  have ry := evRep ht hy
  generalize hvx : a.eval x = vx at rx
  generalize hvy : a.eval y = vy at ry
  split at e
  · rename_i p q h1 h2
    rw [h1] at rx
    rw [h2] at ry
    cases rx
    cases ry
    refine .pure (x := .bool (if neg then !(p == q) else p == q)) hR e fun u' hu' => ?_
    injection hu' with hu'
    subst hu'
    refine ⟨?_, .bool _⟩
    subst hop
    have heq : (Op.equal ty (.bool p) (.bool q)).run P w = .ok (p == q) w := by
      unfold Op.equal
      rw [show Op.maxDepth = 9999 + 1 from rfl]
      unfold Op.equalIn
      simp [run_underlying hty]
    cases neg <;> simp [execOp, ho, hvx, hvy, run_eqGuard, binOp, heq]
  · cases e
theorem s_isnil {op : BinOp} {sl neg : Bool} {ty yt : TypeId} {x y : Operand} {x' : X} (ho : o.op = .binOp op ty x y yt) (hop : op = if neg then .neq else .eql)
    (hty : if sl then (∃ e, P.underlying ty = some (.slice e)) ∧ isNilS y = true else (∃ e, P.underlying ty = some (.pointer e)) ∧ isNilP y = true) (hx : compX x = some x')
    (e : opA (.isnil sl neg x') (X.ev t) h nx = some r) : Sound P o a w w0 φ S h r := by
  have rx := evRep ht hx
  unfold opA at e
  simp only at e
  generalize hvx : a.eval x = vx at rx
  have key : ∀ {r : R} (b : Bool), (Op.equal ty vx (a.eval y)).run P w = .ok b w → ret0 h nx (some (.bool (if neg then !b else b))) = some r → vx ≠ .nilIface → (∀ c, vx ≠ .agg c) →
      (∀ k n, vx ≠ .int k n) → (∀ k n, vx ≠ .float k n) → (∀ k n m, vx ≠ .complex k n m) → (∀ n, vx ≠ .string n) → Sound P o a w w0 φ S h r := by
    intro r b hb e hn ha h1 h2 h3 h4
    refine .pure (x := .bool (if neg then !b else b)) hR e fun u' hu' => ?_
    injection hu' with hu'
    subst hu'
    refine ⟨?_, .bool _⟩
    subst hop
    have hbin : (binOp (if neg then .neq else .eql) ty vx (a.eval y)).run P w = .ok (.bool (if neg then !b else b)) w := by
      cases neg <;> cases vx <;> first | exact absurd rfl (h1 _ _) | exact absurd rfl (h2 _ _) | exact absurd rfl (h3 _ _ _) | exact absurd rfl (h4 _) | simp [binOp, hb]
    simp [execOp, ho, hvx, run_eqGuard ha hn, hbin]
  cases sl with
  | true =>
    obtain ⟨⟨el, hty⟩, hy⟩ := hty
    have hy' : a.eval y = .slice none 0 0 := by
      unfold isNilS at hy
      split at hy
      · rfl
      · cases hy
    have heq : ∀ b n c, (Op.equal ty (.slice b n c) (.slice none 0 0)).run P w = .ok b.isNone w := by
      intro b n c
      unfold Op.equal
      rw [show Op.maxDepth = 9999 + 1 from rfl]
      unfold Op.equalIn
      cases b <;> simp [run_underlying hty]
    rw [hy'] at key
    cases hv : x'.ev t <;> rw [hv] at e rx <;> simp only at e <;> first | (cases e; done) | skip
    · split at e
      · rename_i hpos
        cases rx
        · omega
        · exact key false (heq (some _) _ _) (by simpa using e) (by simp) (by simp) (by simp) (by simp) (by simp) (by simp)
      · cases e
    · split at e
      · rename_i bb hbb
        split at e
        · rename_i hpos
          injection e with e
          cases rx
          rename_i b c hr
          obtain ⟨b1, q1, q2, q3⟩ := hr
          rw [hbb] at q1
          injection q1 with q1
          subst q1
          obtain ⟨oo, p1, p2, p3, p4, p5⟩ := q3 hpos
          subst p1
          have := key false (heq _ _ _) (r := ⟨.bool neg, h, nx, some [], some []⟩) (by cases neg <;> rfl) (by simp) (by simp) (by simp) (by simp) (by simp) (by simp)
          subst e
          exact this
        · cases e
      · cases e
    · cases rx
      exact key true (heq none 0 0) (by simpa using e) (by simp) (by simp) (by simp) (by simp) (by simp) (by simp)
    · cases rx
      exact key false (heq (some _) _ _) (by simpa using e) (by simp) (by simp) (by simp) (by simp) (by simp) (by simp)
  | false =>
    obtain ⟨⟨el, hty⟩, hy⟩ := hty
    have hy' : a.eval y = .pointer none := by
      unfold isNilP at hy
      split at hy
      · rfl
      · cases hy
    have heq : ∀ b, (Op.equal ty (.pointer b) (.pointer none)).run P w = .ok b.isNone w := by
      intro b
      unfold Op.equal
      rw [show Op.maxDepth = 9999 + 1 from rfl]
      unfold Op.equalIn
      cases b <;> simp [run_underlying hty]
    rw [hy'] at key
    cases hv : x'.ev t <;> rw [hv] at e rx <;> simp only at e <;> first | (cases e; done) | skip
    · cases rx
      exact key false (heq (some _)) (by simpa using e) (by simp) (by simp) (by simp) (by simp) (by simp) (by simp)
    · cases rx
      exact key false (heq (some _)) (by simpa using e) (by simp) (by simp) (by simp) (by simp) (by simp) (by simp)
    · cases rx
      exact key true (heq none) (by simpa using e) (by simp) (by simp) (by simp) (by simp) (by simp) (by simp)
theorem s_un {op : UnOp} {ty : TypeId} {x : Operand} {x' : X} (ho : o.op = .unOp op ty x) (hx : compX x = some x')
    (e : opA (.un op x') (X.ev t) h nx = some r) : Sound P o a w w0 φ S h r := by
  unfold opA at e
  simp only at e
  have rx := evRep ht hx
  cases hb : unA op (X.ev t x') with
  | none => rw [hb] at e; simp [ret0] at e
  | some u =>
    obtain ⟨z, z1, z2⟩ := run_unA (P := P) rx hb
    refine .pure (x := z) hR e fun u' hu' => ?_
    rw [hb] at hu'
    injection hu' with hu'
    subst hu'
    exact ⟨by simp [execOp, ho, z2], z1⟩
theorem s_conv {s d : TypeId} {k k0 : IntKind} {x : Operand} {x' : X} (ho : o.op = .convert s d x) (hs : P.underlying s = some (.int k0)) (hd : P.underlying d = some (.int k)) (hx : compX x = some x')
    (e : opA (.conv k x') (X.ev t) h nx = some r) : Sound P o a w w0 φ S h r := by
  unfold opA at e
  simp only at e
  have rx := evRep ht hx
  generalize hvx : a.eval x = vx at rx
  split at e
  · rename_i q n h1
    rw [h1] at rx
    cases rx
    refine .pure (x := .int k (k.wrap n)) hR e fun u' hu' => ?_
    injection hu' with hu'
    subst hu'
    exact ⟨by simp [execOp, ho, hvx, convert, run_underlying hs, run_underlying hd, Conv.intToInt], .int _ _⟩
  · cases e
theorem s_strc {s d : TypeId} {x : Operand} {x' : X} (ho : o.op = .convert s d x) (hs : P.underlying s = some .string) (hd : P.underlying d = some .string) (hx : compX x = some x')
    (e : opA (.strc x') (X.ev t) h nx = some r) : Sound P o a w w0 φ S h r := by
  unfold opA at e
  simp only at e
  have rx := evRep ht hx
  generalize hvx : a.eval x = vx at rx
  split at e
  · rename_i l hl
    rw [hl] at rx
    cases rx
    rename_i q
    refine .pure (x := .string q) hR e fun u hu => ?_
    injection hu with hu
    subst hu
    exact ⟨by simp [execOp, ho, hvx, convert, run_underlying hs, run_underlying hd], .str _⟩
  · cases e
theorem s_mm {mx : Bool} {ty : TypeId} {ts : Array TypeId} {x y : Operand} {x' y' : X} (ho : o.op = .call { callee := .builtin (if mx then .max else .min), args := #[x, y], argTypes := ts }) (hx : compX x = some x') (hy : compX y = some y')
    (e : opA (.mm mx x' y') (X.ev t) h nx = some r) : Sound P o a w w0 φ S h r := by
  unfold opA at e
  simp only at e
  have rx := evRep ht hx
  have ry := evRep ht hy
  generalize hvx : a.eval x = vx at rx
  generalize hvy : a.eval y = vy at ry
  split at e
  · rename_i k p k' q h1 h2
    split at e
    · rename_i hk
      subst hk
      rw [h1] at rx
      rw [h2] at ry
      cases rx
      cases ry
      refine .pure (x := .int k (if mx then max p q else min p q)) hR e fun u' hu' => ?_
      injection hu' with hu'
      subst hu'
      refine ⟨?_, .int _ _⟩
      cases mx <;> simp [execOp, ho, hvx, hvy, resolve, invoke, builtin, Lib.run_max_ints, Lib.run_min_ints]
    · cases e
  · cases e
theorem s_ext {x : Operand} {i : Nat} {x' : X} (ho : o.op = .extract x i) (hx : compX x = some x')
    (e : opA (.ext x' i) (X.ev t) h nx = some r) : Sound P o a w w0 φ S h r := by
  unfold opA at e
  simp only at e
  have rx := evRep ht hx
  generalize hvx : a.eval x = vx at rx
  split at e
  · rename_i vs h1
    rw [h1] at rx
    cases rx
    rename_i us h2 h3
    cases hi : us[i]? with
    | none =>
      have : vs[i]? = none := by
        rw [Array.getElem?_eq_none_iff] at hi
        exact List.getElem?_eq_none (by omega)
      rw [this] at e
      simp [ret0] at e
    | some z =>
      refine .pure (x := z) hR e fun u' hu' => ?_
      exact ⟨by simp [execOp, ho, hvx, Instr.extract, hi], h3 i u' z hu' hi⟩
  · cases e
theorem s_len {str : Bool} {ts : Array TypeId} {ty : TypeId} {x : Operand} {x' : X} (ho : o.op = .call { callee := .builtin .len, args := #[x], argTypes := ts }) (hts : ts[0]? = some ty)
    (hty : if str then P.underlying ty = some .string else ∃ e, P.underlying ty = some (.slice e)) (hx : compX x = some x')
    (e : opA (.len str x') (X.ev t) h nx = some r) : Sound P o a w w0 φ S h r := by
  unfold opA at e
  simp only at e
  have rx := evRep ht hx
  generalize hvx : a.eval x = vx at rx
  have key : ∀ (n : Nat), ret0 h nx (some (.int .i64 n)) = some r → (Builtin.len_ ts o.type #[vx]).run P w = .ok (goInt n) w → Sound P o a w w0 φ S h r := by
    intro n e hr
    refine .pure (x := .int .i64 n) hR e fun u' hu' => ?_
    injection hu' with hu'
    subst hu'
    refine ⟨?_, .int _ _⟩
    simp [execOp, ho, hvx, resolve, invoke, builtin, hr, goInt]
  split at e
  · rename_i s h1
    rw [h1] at rx
    have hty : P.underlying ty = some .string := hty
    generalize hs : s = s' at rx
    cases rx
    subst hs
    rename_i q
    exact key q.data.toList.length e (by simp [Builtin.len_, hts, run_underlying hty])
  · rename_i h1
    obtain ⟨el, hty⟩ : ∃ e, P.underlying ty = some (.slice e) := by simpa using hty
    rw [h1] at rx
    cases rx
    exact key 0 e (by simp [Builtin.len_, hts, run_underlying hty])
  · rename_i h1
    obtain ⟨el, hty⟩ : ∃ e, P.underlying ty = some (.slice e) := by simpa using hty
    rw [h1] at rx
    cases rx <;> exact key 0 e (by simp [Builtin.len_, hts, run_underlying hty])
  · rename_i h1
    obtain ⟨el, hty⟩ : ∃ e, P.underlying ty = some (.slice e) := by simpa using hty
    rw [h1] at rx
    cases rx
    exact key 0 e (by simp [Builtin.len_, hts, run_underlying hty])
  · rename_i n cs h1
    obtain ⟨el, hty⟩ : ∃ e, P.underlying ty = some (.slice e) := by simpa using hty
    rw [h1] at rx
    cases rx
    · exact key 0 e (by simp [Builtin.len_, hts, run_underlying hty])
    · exact key n e (by simp [Builtin.len_, hts, run_underlying hty])
  · rename_i n cs h1
    obtain ⟨el, hty⟩ : ∃ e, P.underlying ty = some (.slice e) := by simpa using hty
    rw [h1] at rx
    cases rx
    exact key n e (by simp [Builtin.len_, hts, run_underlying hty])
  · cases e
theorem s_fld {ty : TypeId} {x : Operand} {f : Nat} {fd : Field} {sz : Option Nat} {x' : X} (ho : o.op = .field ty x f) (hf : fieldT P ty f = some fd) (hs : ldT P fd.type = some sz) (hx : compX x = some x')
    (e : opA (.fld x' fd.offset sz) (X.ev t) h nx = some r) : Sound P o a w w0 φ S h r := by
  unfold opA at e
  simp only at e
  have rx := evRep ht hx
  generalize hvx : a.eval x = vx at rx
  obtain ⟨fs, hu, hfd⟩ : ∃ fs, P.underlying ty = some (.struct fs) ∧ fs[f]? = some fd := by
    unfold fieldT at hf
    split at hf
    · exact ⟨_, by assumption, hf⟩
    · cases hf
  split at e
  · rename_i cs h1
    rw [h1] at rx
    cases rx
    rename_i vs q1 q2 q3
    unfold ldT at hs
    split at hs
    · rename_i m ha hz
      injection hs with hs
      subst hs
      simp only at e
      split at e
      · rename_i hle
        refine .pure (x := .agg (vs.extract fd.offset (fd.offset + m))) hR e fun u' hu' => ?_
        injection hu' with hu'
        subst hu'
        refine ⟨?_, ?_⟩
        · simp [execOp, ho, hvx, Instr.field, run_underlying hu, hfd, asAgg, part, run_isAgg' ha, run_sizeOf' hz]
        · refine .agg _ _ (by simp; omega) (fun i v hv => ?_) (fun i c v hc hv => ?_)
          · rw [Array.getElem?_extract] at hv
            split at hv
            · exact q1 _ _ hv
            · cases hv
          · rw [Array.getElem?_extract] at hv
            split at hv
            · refine q3 _ _ _ ?_ hv
              rw [List.getElem?_take] at hc
              split at hc
              · rwa [List.getElem?_drop] at hc
              · cases hc
            · cases hv
      · cases e
    · rename_i ha hz
      injection hs with hs
      subst hs
      simp only at e
      cases hv : vs[fd.offset]? with
      | none =>
        have : cs[fd.offset]? = none := by
          rw [Array.getElem?_eq_none_iff] at hv
          exact List.getElem?_eq_none (by omega)
        rw [this] at e
        simp [ret0] at e
      | some z =>
        refine .pure (x := z) hR e fun u' hu' => ?_
        exact ⟨by simp [execOp, ho, hvx, Instr.field, run_underlying hu, hfd, asAgg, part, run_isAgg' ha, hv], q3 _ _ _ hu' hv⟩
    · cases hs
  · cases e
theorem s_idx {ty : TypeId} {x y : Operand} {x' y' : X} (ho : o.op = .index ty x y) (hty : P.underlying ty = some .string) (hx : compX x = some x') (hy : compX y = some y')
    (e : opA (.idx x' y') (X.ev t) h nx = some r) : Sound P o a w w0 φ S h r := by
  unfold opA at e
  simp only at e
  have rx := evRep ht hx
  have ry := evRep ht hy
  generalize hvx : a.eval x = vx at rx
  generalize hvy : a.eval y = vy at ry
  split at e
  · rename_i s k i h1 h2
    rw [h1] at rx
    rw [h2] at ry
    generalize hs : s = s' at rx
    cases rx
    subst hs
    cases ry
    rename_i q
    split at e
    · rename_i h0
      cases hb : q.data.toList[i.toNat]? with
      | none => rw [hb] at e; simp [ret0] at e
      | some b =>
        refine .pure (x := .int .u8 b.toNat) hR e fun u' hu' => ?_
        rw [hb] at hu'
        injection hu' with hu'
        subst hu'
        have hb' : q[i.toNat]? = some b := by rw [bytes_get]; exact hb
        exact ⟨by simp [execOp, ho, hvx, hvy, Instr.index, asIntOf, run_underlying hty, h0, hb'], .int _ _⟩
    · cases e
  · cases e
theorem s_faddr {ty : TypeId} {x : Operand} {f : Nat} {fd : Field} {n : Nat} {x' : X} (ho : o.op = .fieldAddr ty x f) (hf : fieldT P ty f = some fd) (hs : szT P fd.type = some n) (hn : 0 < n) (hx : compX x = some x')
    (e : opA (.faddr x' fd.offset) (X.ev t) h nx = some r) : Sound P o a w w0 φ S h r := by
  unfold opA at e
  simp only at e
  have rx := evRep ht hx
  generalize hvx : a.eval x = vx at rx
  obtain ⟨fs, hu, hfd⟩ : ∃ fs, P.underlying ty = some (.struct fs) ∧ fs[f]? = some fd := by
    unfold fieldT at hf
    split at hf
    · exact ⟨_, by assumption, hf⟩
    · cases hf
  have run : ∀ b : Addr, vx = .pointer (some b) → (execOp a.eval o).run P w = .ok (.value (.pointer (some (b.add fd.offset)))) w := by
    intro b hv
    subst hv
    have hn' : n ≠ 0 := by omega
    simp [execOp, ho, hvx, Instr.fieldAt, run_underlying hu, hfd, Instr.sureAddr, fieldPlace, run_sizeOf' hs, hn']
  split at e
  · rename_i cs off h1
    rw [h1] at rx
    cases rx
    rename_i p q vs q1 qp q2 q3
    refine .pure (x := .pointer (some ⟨p, q + (off + fd.offset), none⟩)) hR e fun u' hu' => ?_
    injection hu' with hu'
    subst hu'
    refine ⟨?_, .rp _ _ _ _ _ (by assumption) (by assumption) (by assumption) (by assumption)⟩
    have := run ⟨p, q + off, none⟩ rfl
    rw [add_none] at this
    simpa [Nat.add_assoc] using this
  · rename_i id ver off h1
    rw [h1] at rx
    cases rx
    rename_i b hb
    refine .pure (x := .pointer (some (b.add fd.offset))) hR e fun u' hu' => ?_
    injection hu' with hu'
    subst hu'
    refine ⟨run b rfl, .pt _ _ _ _ ?_⟩
    obtain ⟨bb, g1, g2, g3⟩ := hb
    exact ⟨bb, g1, g2, fun hv => by rw [g3 hv, add_none, Nat.add_assoc]⟩
  · cases e
theorem s_iaddr {ty el : TypeId} {x y : Operand} {n : Nat} {x' y' : X} (ho : o.op = .indexAddr ty x y) (hty : P.underlying ty = some (.slice el)) (hs : szT P el = some n) (hn : 0 < n) (hx : compX x = some x') (hy : compX y = some y')
    (e : opA (.iaddr x' y' n) (X.ev t) h nx = some r) : Sound P o a w w0 φ S h r := by
  unfold opA at e
  simp only at e
  have rx := evRep ht hx
  have ry := evRep ht hy
  generalize hvx : a.eval x = vx at rx
  generalize hvy : a.eval y = vy at ry
  have run : ∀ (b : Addr) (l c : Nat) (k : IntKind) (i : Int), vx = .slice (some b) l c → vy = .int k i → 0 ≤ i → i < l → (execOp a.eval o).run P w = .ok (.value (.pointer (some (b.add (i.toNat * n))))) w := by
    intro b l c k i hv hv' h0 h1
    subst hv
    subst hv'
    simp [execOp, ho, hvx, hvy, Instr.indexAt, asIntOf, run_underlying hty, run_sizeOf' hs, h0, h1]
  split at e
  · rename_i l cs k i h1 h2
    rw [h1] at rx
    rw [h2] at ry
    cases ry
    split at e
    · rename_i hb
      obtain ⟨hb0, hb1, hb2⟩ := hb
      cases rx
      · simp at hb2
      · rename_i b c vs q1 qp q2 q3
        obtain ⟨z1, z2, z3⟩ := q2 (by intro hc; rw [hc] at hb2; simp at hb2)
        refine .pure (x := .pointer (some (b.add (i.toNat * n)))) hR e fun u' hu' => ?_
        injection hu' with hu'
        subst hu'
        refine ⟨run b l c k i rfl rfl hb0 (by omega), ?_⟩
        have : b.add (i.toNat * n) = ⟨b.block, b.off + i.toNat * n, none⟩ := by
          cases b; simp at z1; subst z1; exact add_none ..
        rw [this]
        exact .rp _ _ _ _ _ qp z2 z3 q3
    · cases e
  · rename_i id ver off l cap k i h1 h2
    rw [h1] at rx
    rw [h2] at ry
    cases ry
    split at e
    · rename_i hb0
      split at e
      · rename_i bb hbb
        split at e
        · rename_i hv
          injection e with e
          cases rx
          rename_i b c hr
          obtain ⟨b1, q1, q2, q3⟩ := hr
          rw [hbb] at q1
          injection q1 with q1
          subst q1
          obtain ⟨oo, p1, p2, p3, p4, p5⟩ := q3 hv
          subst p1
          have hoo := p2 (by omega)
          subst hoo
          subst e
          refine ⟨_, w, φ, .inl (run _ l c k i rfl rfl hb0.1 hb0.2), hR, .refl, ?_⟩
          rw [add_none]
          exact .pt _ _ _ _ ⟨bb, hbb, q2, fun _ => by rw [Nat.add_assoc]⟩
        · cases e
      · cases e
    · cases e
  · cases e
theorem s_fnc {f : Nat} {first caps : Array Operand} {cs : List X} (ho : o.op = .makeFunc (.func f) first caps) (h0 : first.size = 0) (hc : compXs caps.toList = some cs)
    (e : opA (.fnc f cs) (X.ev t) h nx = some r) : Sound P o a w w0 φ S h r := by
  unfold opA at e
  obtain ⟨g1, g2⟩ := mapM_at hc
  have hfirst : first = #[] := Array.eq_empty_of_size_eq_zero h0
  refine .pure (x := .func (.func f) #[] (caps.map a.eval)) hR e fun u' hu' => ?_
  injection hu' with hu'
  subst hu'
  refine ⟨by simp [execOp, ho, Instr.makeFunc, hfirst], .fn _ _ _ (by simpa using g1) fun i c v hi hv => ?_⟩
  rw [List.getElem?_map, Option.map_eq_some_iff] at hi
  obtain ⟨y, hy, rfl⟩ := hi
  rw [Array.getElem?_map, Option.map_eq_some_iff] at hv
  obtain ⟨z, hz, rfl⟩ := hv
  exact evRep ht (g2 i z y (by simpa using hz) hy)
theorem s_nilc {x : Operand} {x' : X} (ho : o.op = .nilCheck x) (hx : compX x = some x')
    (e : opA (.nilc x') (X.ev t) h nx = some r) : Sound P o a w w0 φ S h r := by
  unfold opA at e
  simp only at e
  have rx := evRep ht hx
  generalize hvx : a.eval x = vx at rx
  split at e
  · rename_i h1
    rw [h1] at rx e
    refine .pure (x := vx) hR e fun u' hu' => ?_
    injection hu' with hu'
    subst hu'
    refine ⟨?_, rx⟩
    cases rx
    simp [execOp, ho, hvx]
  · rename_i h1
    rw [h1] at rx e
    refine .pure (x := vx) hR e fun u' hu' => ?_
    injection hu' with hu'
    subst hu'
    refine ⟨?_, rx⟩
    cases rx
    simp [execOp, ho, hvx]
  · rename_i h1
    rw [h1] at rx e
    refine .pure (x := vx) hR e fun u' hu' => ?_
    injection hu' with hu'
    subst hu'
    refine ⟨?_, rx⟩
    cases rx
    simp [execOp, ho, hvx]
  · cases e
end
end Go.Ex
