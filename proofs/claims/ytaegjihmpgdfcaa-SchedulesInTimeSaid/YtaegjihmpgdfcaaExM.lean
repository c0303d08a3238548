/- Code and functions: what the abstract machine says of a command holds of the code that it comes of. -/
import Derived.Test.YtaegjihmpgdfcaaExO
set_option linter.unusedVariables false
set_option linter.unusedSimpArgs false
namespace Go.Ex
open Go.RowKit
def exOf : E → Exit
  | .norm => .normal
  | .exit id => .exit id
  | .ret => .ret
/-- Where a walk began. -/
structure From where
  w0 : World
  nt : Nat
  ds : List Deferred
  φ : Nat → Nat × Nat
  h : Hp
  S : Nat → Prop
  w : World
def Post (P : Program) (f : From) (Q : E → St → Prop) : Exit → Act → World → Prop := fun e a' w' =>
  ∃ E s' φ' S', exOf E = e ∧ Q E s' ∧ Std P f.w0 f.nt f.ds φ' S' s' a' w' ∧ Ext f.φ f.h f.S f.w φ' s'.h S' w' ∧ ∀ b, S' b → b < f.w0.heap.size → f.S b
def Here (P : Program) (f : From) (s : St) (a : Act) (w : World) : Prop :=
  ∃ φ S, Std P f.w0 f.nt f.ds φ S s a w ∧ Ext f.φ f.h f.S f.w φ s.h S w ∧ ∀ b, S b → b < f.w0.heap.size → f.S b
section
variable {P : Program} {sh : Nat → Bool}
theorem disj_no {a b : Option (List Nat)} (h : disj a b = true) (id : Nat) : ¬ (inW a id ∧ inW b id) := by
  rintro ⟨h1, h2⟩
  unfold disj at h
  split at h
  · cases h1
  · cases h2
  · rename_i x y _ _
    rw [List.all_eq_true] at h
    have := h id h1
    simp only [inW] at h2
    simp [h2] at this
  · cases h
theorem withCf_at {bf : List (List Nat)} {l0 : List Ins} {j : Nat} {i : Ins} (h : (withCf bf l0)[j]? = some i) : ∃ i0, l0[j]? = some i0 ∧ i = { i0 with cf := i.cf } ∧
    i.cf = if i0.op.touch then (List.range j).filter fun k => !(bf.getD j []).contains k && (match l0[k]? with | some k => k.op.touch && (k.op.writes || i0.op.writes) | none => false) else [] := by
  unfold withCf at h
  rw [List.getElem?_map, Option.map_eq_some_iff] at h
  obtain ⟨⟨i0, j'⟩, h1, h2⟩ := h
  rw [List.getElem?_zipIdx, Option.map_eq_some_iff] at h1
  obtain ⟨i1, h3, h4⟩ := h1
  simp only [Nat.zero_add, Prod.mk.injEq] at h4
  obtain ⟨rfl, rfl⟩ := h4
  subst h2
  exact ⟨i1, h3, rfl, rfl⟩
theorem draw_wp (hm : P.follows .mixedOrders = true) {f : From} {id : Nat} {ops : Array Oper} {l : List Ins} {Q : E → St → Prop} {s : St} {a : Act} {w : World} (hc : compReg P sh f.nt ops true = some (.reg true l)) (hr : runL P l s [] (Q .norm)) (hh : Here P f s a w) :
    (Code.region id ops true).wp P (Post P f Q) a w := by
  unfold compReg at hc
  split at hc
  · cases hc
  · rename_i l0 hl0
    simp only [if_true] at hc
    split at hc
    · rename_i hq
      obtain ⟨hedge, htmps⟩ := hq
      injection hc with hc
      injection hc with _ hc
      subst hc
      obtain ⟨g1, g2⟩ := compSeq_at hl0
      have hbf := befs_ok ops ops.toList [] (fun j => by simp) (fun j k hk => by simp at hk)
      have hlen : (withCf (befs ops.toList []) l0).length = l0.length := by simp [withCf]
      have hops : l0.length = ops.size := by rw [← g1]; simp
      obtain ⟨σ, fw, t1, t2, t3⟩ := run_trace _ s [] hr
      have hat : ∀ (j : Nat) o, ops[j]? = some o → ops.toList[j]? = some o := fun j o h => by simpa using h
      have l0at : ∀ (j : Nat) i, l0[j]? = some i → ∃ o, ops[j]? = some o ∧ compIns P sh f.nt ops [] o = some i := by
        intro j i hi
        have hj : j < ops.size := by rw [← hops]; exact (List.getElem?_eq_some_iff.1 hi).1
        exact ⟨ops[j], Array.getElem?_eq_getElem hj, g2 j _ i (hat _ _ (Array.getElem?_eq_getElem hj)) hi⟩
      have facts : ∀ (j : Nat) i, (withCf (befs ops.toList []) l0)[j]? = some i → (i.op.touch = false → fw j = (some [], some [])) ∧ (i.op.writes = false → (fw j).2 = some []) := by
        intro j i hi
        rcases (t3 j i hi).1 with ⟨_, _, h3⟩ | ⟨_, v, _, h3⟩
        · exact ⟨fun _ => h3, fun _ => by rw [h3]⟩
        · have hf := opStep_facts h3
          exact ⟨fun h => by obtain ⟨q1, q2⟩ := hf.touch h; exact Prod.ext q1 q2, hf.writes⟩
      have g : Reg P sh f.nt ops (withCf (befs ops.toList []) l0) σ fw := by
        refine ⟨by rw [hlen, hops], fun j i hi => ?_, fun j i hi => (t3 j i hi).1, fun k j hd => ?_, fun k j i i' hkj hi hi' => ?_, fun k j i i' hkj hi hi' => ?_⟩
        · obtain ⟨i0, h1, h2, _⟩ := withCf_at hi
          obtain ⟨o, ho, hci⟩ := l0at j i0 h1
          refine ⟨o, ho, ?_⟩
          rw [hci, h2]
          have := (compIns_inv hci).2.2.1
          cases i0; simp at this; subst this; rfl
        · obtain ⟨o, ho, e, he1, he2, rfl⟩ := hd
          unfold edgesOk at hedge
          rw [List.all_eq_true] at hedge
          have hm : (o, j) ∈ ops.toList.zipIdx := by
            rw [List.mem_zipIdx_iff_getElem?]
            simpa using ho
          have := hedge _ hm
          simp only [Array.all_eq_true] at this
          obtain ⟨q, hq⟩ := List.getElem?_of_mem he1
          have hq' : o.after[q]? = some e := by simpa using hq
          obtain ⟨hq1, hq2⟩ := Array.getElem?_eq_some_iff.1 hq'
          have := this q hq1
          rw [hq2, he2] at this
          simpa using this
        · obtain ⟨i0, h1, h2, _⟩ := withCf_at hi
          obtain ⟨i1, h3, h4, _⟩ := withCf_at hi'
          unfold tmpsOk at htmps
          rw [List.all_eq_true] at htmps
          have hm : (i1, j) ∈ l0.zipIdx := by
            rw [List.mem_zipIdx_iff_getElem?]
            simpa using h3
          have := htmps _ hm
          simp only [List.all_eq_true] at this
          have := this k (by simpa using hkj)
          rw [Bool.or_eq_true] at this
          rcases this with q | q
          · exact .inl (hbf j k (by simpa using q))
          · right
            rw [h1] at q
            simp only [Bool.and_eq_true] at q
            have e1 : i.dst = i0.dst := by rw [h2]
            have e2 : i'.names = i1.names := by rw [h4]; rfl
            have e3 : i'.dst = i1.dst := by rw [h4]
            have e4 : i.names = i0.names := by rw [h2]; rfl
            refine ⟨fun d hd => ?_, fun d hd => ?_⟩
            · rw [e1] at hd
              rw [e2]
              have := q.1
              rw [hd] at this
              simpa using this
            · rw [e3] at hd
              rw [e4]
              have := q.2
              rw [hd] at this
              simpa using this
        · obtain ⟨i0, h1, h2, _⟩ := withCf_at hi
          obtain ⟨i1, h3, h4, h5⟩ := withCf_at hi'
          by_cases hb : (befs ops.toList []).getD j [] |>.contains k
          · exact .inl (hbf j k (by simpa using hb))
          · right
            intro idd
            have e1 : i.op = i0.op := by rw [h2]
            have e2 : i'.op = i1.op := by rw [h4]
            have fk := facts k i hi
            have fj := facts j i' hi'
            by_cases q1 : i1.op.touch = true
            · by_cases q2 : i0.op.touch = true
              · by_cases q3 : (i0.op.writes || i1.op.writes) = true
                · have hk : k ∈ i'.cf := by
                    rw [h5, if_pos q1, List.mem_filter]
                    refine ⟨by simpa using hkj, ?_⟩
                    rw [h1]
                    simp only [q2, q3, Bool.and_true, Bool.not_eq_true']
                    simpa using hb
                  by_cases hw : want (σ j).t i'.g = some true
                  · have hcf := (t3 j i' hi').2 hw
                    unfold cfB at hcf
                    rw [List.all_eq_true] at hcf
                    have := hcf k hk
                    rw [List.nil_append, List.getElem?_map, List.getElem?_range (by omega)] at this
                    simp only [Option.map_some, Bool.and_eq_true] at this
                    exact ⟨disj_no this.1 idd, disj_no this.2 idd⟩
                  · rcases (t3 j i' hi').1 with ⟨_, _, z⟩ | ⟨z, _⟩
                    · rw [z]; exact ⟨fun q => (by cases q.2), fun q => (by cases q.2)⟩
                    · exact absurd z hw
                · simp only [Bool.or_eq_true, not_or, Bool.not_eq_true] at q3
                  rw [fk.2 (by rw [e1]; exact q3.1), fj.2 (by rw [e2]; exact q3.2)]
                  exact ⟨fun q => (by cases q.1), fun q => (by cases q.2)⟩
              · rw [fk.1 (by rw [e1]; simpa using q2)]
                exact ⟨fun q => (by cases q.1), fun q => (by cases q.1)⟩
            · rw [fj.1 (by rw [e2]; simpa using q1)]
              exact ⟨fun q => (by cases q.2), fun q => (by cases q.2)⟩
      obtain ⟨φ, S, hd, he, hsub⟩ := hh
      refine wp_region_any hm ?_
      have hex : Ext φ s.h S w φ s.h S { w with drawn := w.drawn + 1 } := ⟨fun _ x => x, fun _ _ => rfl, fun id b hb => ⟨b, hb, Nat.le_refl _, fun _ => ⟨rfl, rfl, rfl⟩⟩⟩
      have hrel : Rel P f.w0 φ S s.h { w with drawn := w.drawn + 1 } := ⟨hd.rel.below.drew, hd.rel.gl, hd.rel.sin, fun id b hb => (hd.rel.blk id b hb).keep hex rfl (hd.rel.blk id b hb).out (Nat.le_refl _) rfl, hd.rel.inj⟩
      refine any_wp (w0 := f.w0) (nt := f.nt) (ds := f.ds) g (by rw [t1]; exact hd.fresh) (Q := Post P f Q) (φ0 := f.φ) (h00 := f.h) (S0 := f.S) (wb := f.w) (fun tX hX φ' S' a' w' e1 e2 e3 e4 e5 e6 e7 e8 e9 => ?_) ops.size _ s.t s.h φ S a _ (by simp) (by
          refine Nat.le_trans (List.length_filter_le _ _) ?_
          simp) (fun i k h1 => by simp [Array.getD] at h1) ⟨fun n => ⟨fun i _ h1 => by simp [Array.getD] at h1, fun _ => (by show s.t n = (σ 0).t n; rw [t1])⟩, fun id => ⟨fun i _ h1 => by simp [Array.getD] at h1, fun _ => (by show s.h id = (σ 0).h id; rw [t1])⟩, fun k i _ h1 => by simp [Array.getD] at h1, hrel, fun n => (hd.tm n).ext hex, hd.size, hd.ds⟩ (he.trans hex) hsub
      have hh' : hX = (σ (withCf (befs ops.toList []) l0).length).h := funext e2
      have ht' : tX = (σ (withCf (befs ops.toList []) l0).length).t := funext e1
      subst hh'
      subst ht'
      exact ⟨.norm, _, φ', S', rfl, t2, ⟨e4, e5, e6, e3, e7⟩, e8, e9⟩
    · cases hc
theorem least {p : Nat → Prop} (h : ∃ n, p n) : ∃ n, p n ∧ ∀ m, p m → n ≤ m := by
  obtain ⟨n, hn⟩ := h
  induction n using Nat.strongRecOn with
  | _ n ih =>
    by_cases q : ∃ m, m < n ∧ p m
    · obtain ⟨m, h1, h2⟩ := q
      exact ih m h1 h2
    · exact ⟨n, hn, fun m hm => Nat.le_of_not_lt fun hlt => q ⟨m, hlt, hm⟩⟩
theorem wp_loop_of {c : Code} {Q : Exit → Act → World → Prop} (I : Nat → Act → World → Prop) {n : Nat} {a : Act} {w : World} (h0 : I n a w)
    (round : ∀ n a w, I n a w → c.wp P (Exit.then (fun a' w' => ∃ m, m < n ∧ I m a' w') Q) a w) : (Code.loop c).wp P Q a w := by
  classical
  let μ : Act → World → Nat := fun a w => if h : ∃ n, I n a w then Classical.choose (least h) else 0
  refine wp_loop (fun a w => ∃ n, I n a w) μ ⟨n, h0⟩ fun a w hI => ?_
  have hμ : I (μ a w) a w := by
    simp only [μ, dif_pos hI]
    exact (Classical.choose_spec (least hI)).1
  refine wp_mono (round _ a w hμ) fun e a' w' he => ?_
  cases e with
  | normal =>
    obtain ⟨m, hm, hIm⟩ := he
    refine ⟨⟨m, hIm⟩, ?_⟩
    have hex : ∃ n, I n a' w' := ⟨m, hIm⟩
    have : μ a' w' ≤ m := by
      simp only [μ, dif_pos hex]
      exact (Classical.choose_spec (least hex)).2 m hIm
    omega
  | _ => exact he
theorem wpA_sound (hm : P.follows .mixedOrders = true) {f : From} : ∀ (c : Code) (C : Cmd) (Q : E → St → Prop) (s : St) (a : Act) (w : World), compC P sh f.nt c = some C → wpA P C Q s → Here P f s a w → c.wp P (Post P f Q) a w := by
  intro c
  induction c with
  | skip =>
    intro C Q s a w hc hw ⟨φ, S, h1, h2, h3⟩
    simp only [compC, Option.some.injEq] at hc
    subst hc
    exact wp_skip ⟨.norm, s, φ, S, rfl, hw, h1, h2, h3⟩
  | region id ops draw =>
    intro C Q s a w hc hw hh
    simp only [compC] at hc
    have hc0 := hc
    unfold compReg at hc
    split at hc
    · cases hc
    · rename_i l hl
      split at hc
      · rename_i hd
        subst hd
        split at hc
        · injection hc with hc
          subst hc
          exact draw_wp hm hc0 (by simpa only [wpA] using hw) hh
        · cases hc
      · rename_i hd
        have hd : draw = false := by simpa using hd
        subst hd
        injection hc with hc
        subst hc
        obtain ⟨φ, S, h1, h2, h3⟩ := hh
        obtain ⟨g1, g2⟩ := compSeq_at hl
        refine wp_region ?_
        have := seq_wp (P := P) (sh := sh) (nt := f.nt) (ops := ops) (Q := Post P f Q) (φ0 := f.φ) (S0 := f.S) (h0 := f.h) (wb := f.w) (w0 := f.w0) (ds := f.ds) (fun _ _ => True) l (fun j i hi => by
            have hj : j < ops.toList.length := by rw [g1]; exact (List.getElem?_eq_some_iff.1 hi).1
            have ho := List.getElem?_eq_getElem hj
            have hci := g2 j _ i ho hi
            have hcf := (compIns_inv hci).2.2.1
            refine ⟨ops.toList[j], by simp, ?_⟩
            rw [hci]
            congr 1
            cases i; simp at hcf; subst hcf; rfl) (K := Q .norm) (by rw [← g1]; simp) (fun s' φ' S' a' w' q1 q2 q3 q4 => ⟨.norm, s', φ', S', rfl, q1, q2, q3, q4⟩) l.length 0 s φ S a w (by omega) h1 h2 h3 (by simp only [wpA] at hw; simpa using hw)
        simpa using this
  | seq x y ihx ihy =>
    intro C Q s a w hc hw hh
    simp only [compC] at hc
    split at hc
    · rename_i A B hA hB
      injection hc with hc
      subst hc
      simp only [wpA] at hw
      refine wp_seq (wp_mono (ihx A _ s a w hA hw hh) fun e a' w' ⟨E, s', φ', S', q1, q2, q3, q4, q5⟩ => ?_)
      cases E with
      | norm => subst q1; exact ihy B Q s' a' w' hB q2 ⟨φ', S', q3, q4, q5⟩
      | exit id => subst q1; exact ⟨.exit id, s', φ', S', rfl, q2, q3, q4, q5⟩
      | ret => subst q1; exact ⟨.ret, s', φ', S', rfl, q2, q3, q4, q5⟩
    · cases hc
  | cond c x y ihx ihy =>
    intro C Q s a w hc hw hh
    simp only [compC] at hc
    split at hc
    · rename_i X A B hX hA hB
      injection hc with hc
      subst hc
      simp only [wpA] at hw
      obtain ⟨φ, S, h1, h2, h3⟩ := hh
      have rc := evRep h1.tm hX
      split at hw
      · rename_i hb
        rw [hb] at rc
        generalize hv : a.eval c = v at rc
        cases rc
        exact wp_cond_true hv (ihx A Q s a w hA hw ⟨φ, S, h1, h2, h3⟩)
      · rename_i hb
        rw [hb] at rc
        generalize hv : a.eval c = v at rc
        cases rc
        exact wp_cond_false hv (ihy B Q s a w hB hw ⟨φ, S, h1, h2, h3⟩)
      · cases hw
    · cases hc
  | block id c ih =>
    intro C Q s a w hc hw hh
    simp only [compC, Option.map_eq_some_iff] at hc
    obtain ⟨A, hA, rfl⟩ := hc
    simp only [wpA] at hw
    refine wp_block (wp_mono (ih A _ s a w hA hw hh) fun e a' w' ⟨E, s', φ', S', q1, q2, q3, q4, q5⟩ => ?_)
    cases E with
    | norm => subst q1; exact ⟨.norm, s', φ', S', rfl, q2, q3, q4, q5⟩
    | exit i =>
      subst q1
      simp only at q2
      simp only [exOf, Exit.inBlock]
      split at q2
      · rename_i h; rw [if_pos h]; exact ⟨.norm, s', φ', S', rfl, q2, q3, q4, q5⟩
      · rename_i h; rw [if_neg h]; exact ⟨.exit i, s', φ', S', rfl, q2, q3, q4, q5⟩
    | ret => subst q1; exact ⟨.ret, s', φ', S', rfl, q2, q3, q4, q5⟩
  | loop c ih =>
    intro C Q s a w hc hw hh
    simp only [compC, Option.map_eq_some_iff] at hc
    obtain ⟨A, hA, rfl⟩ := hc
    simp only [wpA] at hw
    obtain ⟨I, μ, hI, hround⟩ : Loops _ _ _ := hw
    refine wp_loop_of (fun n a w => ∃ s, I s ∧ μ s = n ∧ Here P f s a w) (n := μ s) ⟨s, hI, rfl, hh⟩ fun n a w ⟨s, h1, h2, h3⟩ => ?_
    refine wp_mono (ih A _ s a w hA (hround s h1) h3) fun e a' w' ⟨E, s', φ', S', q1, q2, q3, q4, q5⟩ => ?_
    cases E with
    | norm => subst q1; exact ⟨μ s', by rw [← h2]; exact q2.2, s', q2.1, rfl, φ', S', q3, q4, q5⟩
    | exit i => subst q1; exact ⟨.exit i, s', φ', S', rfl, q2, q3, q4, q5⟩
    | ret => subst q1; exact ⟨.ret, s', φ', S', rfl, q2, q3, q4, q5⟩
  | exit id =>
    intro C Q s a w hc hw ⟨φ, S, h1, h2, h3⟩
    simp only [compC, Option.some.injEq] at hc
    subst hc
    exact wp_exit ⟨.exit id, s, φ, S, rfl, hw, h1, h2, h3⟩
  | ret =>
    intro C Q s a w hc hw ⟨φ, S, h1, h2, h3⟩
    simp only [compC, Option.some.injEq] at hc
    subst hc
    exact wp_ret ⟨.ret, s, φ, S, rfl, hw, h1, h2, h3⟩
  | _ => intro C Q s a w hc; simp [compC] at hc
/-- The results' temporaries, if no result lies in a cell. -/
def resT (fn : Func) : Option (List Nat) := fn.results.toList.mapM fun | .tmp t => some t | .cell .. => none
/-- What a function answers. -/
def resV (ts : List Nat) (t : Nat → V) : V := match ts with
  | [n] => t n
  | ts => .tup (ts.map t)
theorem results_rep {fn : Func} {ts : List Nat} {φ : Nat → Nat × Nat} {h : Hp} {S : Nat → Prop} {w : World} {t : Nat → V} {tmps : Array Value} (hr : resT fn = some ts) (ht : ∀ n, Rep φ h S w (t n) (tmps.getD n undef)) :
    ∃ v, (results fn tmps).run P w = .ok v w ∧ Rep φ h S w (resV ts t) v := by
  have key : ∀ (l : List ResultVar) (ts : List Nat), (l.mapM fun | .tmp t => some t | .cell .. => none) = some ts →
      (l.mapM (fun r => (match r with | .tmp t => pure (tmps.getD t undef) | .cell a t => do loadVar t (← asAddr (tmps.getD a undef)) : Sem Value))).run P w = .ok (ts.map fun n => tmps.getD n undef) w := by
    intro l
    induction l with
    | nil => intro ts e; simp at e; subst e; rfl
    | cons r l ih =>
      intro ts e
      rw [List.mapM_cons] at e
      cases r with
      | cell => simp at e
      | tmp n =>
        simp only [Option.bind_eq_bind, Option.bind_some, Option.bind_eq_some_iff, Option.pure_def, Option.some.injEq] at e
        obtain ⟨ts', h1, rfl⟩ := e
        rw [List.mapM_cons]
        simp only [Sem.run_bind, Sem.run_pure, Result.andThen_ok, ih ts' h1, List.map_cons]
  have hk := key fn.results.toList ts hr
  have hrun : (results fn tmps).run P w = .ok (let vs := (ts.map fun n => tmps.getD n undef).toArray; if h : vs.size = 1 then vs[0] else .tuple vs) w := by
    unfold results
    rw [Sem.run_bind, Array.mapM_eq_mapM_toList, Sem.run_map]
    exact congrArg (fun r : Result (List Value) => (r.andThen fun a w' => Result.ok a.toArray w').andThen fun a w' => Sem.run P (pure (if h : a.size = 1 then a[0] else .tuple a)) w') hk
  refine ⟨_, hrun, ?_⟩
  simp only
  split
  · rename_i h1
    match ts, h1 with
    | [n], _ => simpa [resV] using ht n
  · rename_i h1
    have : resV ts t = .tup (ts.map t) := by
      unfold resV
      split
      · simp at h1
      · rfl
    rw [this]
    refine .tup _ _ (by simp) fun i c v hc hv => ?_
    rw [List.getElem?_map, Option.map_eq_some_iff] at hc
    obtain ⟨n, hn, rfl⟩ := hc
    rw [List.getElem?_toArray, List.getElem?_map, hn] at hv
    simp at hv
    subst hv
    simpa using ht n
def initT (args : List V) : Nat → V := fun n => args.getD n (.tup [])
/-- A function's small command, and where its results lie. -/
def compF (P : Program) (sh : Nat → Bool) (f : Nat) : Option (Cmd × List Nat × Nat) :=
  match P.funcs[f]? with
  | some fn => match fn.body with
    | some c => match compC P sh fn.ntmps c, resT fn with
      | some C, some ts => some (C, ts, fn.ntmps)
      | _, _ => none
    | none => none
  | none => none
theorem calls_of (hm : P.follows .mixedOrders = true) {f : Nat} {C : Cmd} {ts : List Nat} {nt : Nat} (hf : compF P sh f = some (C, ts, nt)) {args : List V} (nt0 : args.length ≤ nt) {w0 w : World} {φ : Nat → Nat × Nat} {S : Nat → Prop} {h : Hp} {nx : Nat} {vs : Array Value}
    (hR : Rel P w0 φ S h w) (hfr : ∀ id, nx ≤ id → h id = none) (hv : Reps φ h S w args vs) {Q : St → Prop} (hw : wpA P C (fun e s => match e with | .exit _ => False | _ => Q s) ⟨initT args, h, nx⟩) {R : Ending → World → Prop}
    (hQ : ∀ s φ' S' w' v, Q s → Rel P w0 φ' S' s.h w' → Ext φ h S w φ' s.h S' w' → (∀ b, S' b → b < w0.heap.size → S b) → (∀ id, s.nx ≤ id → s.h id = none) → Rep φ' s.h S' w' (resV ts s.t) v → R (.returned v) w') : Calls P f vs w R := by
  unfold compF at hf
  split at hf
  · rename_i fn hfn
    split at hf
    · rename_i c hc
      split at hf
      · rename_i C' ts' hC hts
        injection hf with hf
        cases hf
        refine calls_of_wp hfn hc ?_
        have hs := hv.1
        have hn := nt0
        let fr : From := ⟨w0, fn.ntmps, [], φ, h, S, w⟩
        refine wp_mono (wpA_sound hm (f := fr) c C _ ⟨initT args, h, nx⟩ _ w hC hw ⟨φ, S, ⟨hR, fun n => ?_, ?_, hfr, rfl⟩, .refl, fun _ x _ => x⟩) fun e a' w' ⟨E, s', φ', S', q1, q2, q3, q4, q5⟩ => ?_
        · simp only [initT]
          by_cases h1 : n < args.length
          · have h2 : n < vs.size := by omega
            have := hv.2 n args[n] vs[n] (List.getElem?_eq_getElem h1) (Array.getElem?_eq_getElem h2)
            rw [List.getD_eq_getElem?_getD, List.getElem?_eq_getElem h1]
            simp only [Option.getD_some]
            rw [Array.getD_eq_getD_getElem?, Array.getElem?_append_left h2, Array.getElem?_eq_getElem h2]
            exact this
          · rw [List.getD_eq_getElem?_getD, List.getElem?_eq_none (by omega)]
            rw [Array.getD_eq_getD_getElem?, Array.getElem?_append_right (by omega)]
            simp only [Option.getD_none]
            rw [Array.getElem?_replicate]
            split <;> exact undef_rep
        · show _ = fn.ntmps
          simp; omega
        · obtain ⟨v, hrun, hrv⟩ := results_rep (P := P) hts q3.tm
          cases E with
          | norm => subst q1; exact ⟨q3.ds, v, hrun, hQ s' φ' S' w' v q2 q3.rel q4 q5 q3.fresh hrv⟩
          | ret => subst q1; exact ⟨q3.ds, v, hrun, hQ s' φ' S' w' v q2 q3.rel q4 q5 q3.fresh hrv⟩
          | exit id => exact q2.elim
      · cases hf
    · cases hf
  · cases hf
/-- A function that shares the caller's blocks. -/
theorem SOk.of (hm : P.follows .mixedOrders = true) {f : Nat} {C : Cmd} {ts : List Nat} {nt : Nat} (hf : compF P sh f = some (C, ts, nt)) {args : List V} (nt0 : args.length ≤ nt) {h h' : Hp} {nx nx' : Nat} {v : V}
    (hw : wpA P C (fun e s => match e with | .exit _ => False | _ => resV ts s.t = v ∧ s.h = h' ∧ s.nx = nx') ⟨initT args, h, nx⟩) : SOk P f args h nx v h' nx' := by
  intro w0 w φ S vs hfr hR hv
  refine calls_of hm hf nt0 hR hfr hv (Q := fun s => resV ts s.t = v ∧ s.h = h' ∧ s.nx = nx') hw ?_
  rintro s φ' S' w' x ⟨rfl, rfl, rfl⟩ h1 h2 h3 h4 h5
  exact ⟨x, φ', S', rfl, h1, h2, h3, h4, h5⟩
def ixOf : List Nat → Nat → Option Nat
  | [], _ => none
  | x :: l, y => if x = y then some 0 else (ixOf l y).map (· + 1)
theorem ixOf_get : ∀ {l : List Nat} {y k : Nat}, ixOf l y = some k → l[k]? = some y
  | [], y, k, e => by cases e
  | x :: l, y, k, e => by
    unfold ixOf at e
    split at e
    · rename_i h; injection e with e; subst e; subst h; rfl
    · rw [Option.map_eq_some_iff] at e
      obtain ⟨j, hj, rfl⟩ := e
      simpa using ixOf_get hj
/-- A value as a function hands it out: the blocks in 'own' are the caller's, all else only reads. -/
def expC (h : Hp) (own : List Nat) (n : Nat) : V → Option V
  | .sl id ver off len cap => match ixOf own id with
    | some k => match h id with
      | some b => if b.ver = ver then some (.sl k 0 off len cap) else none
      | none => none
    | none => cellRO (fun j => if own.contains j then none else h j) n (.sl id ver off len cap)
  | .em => some .em
  | v => cellRO (fun j => if own.contains j then none else h j) n v
def exp1 (h : Hp) (own : List Nat) : V → Option V
  | .agg cs => (cs.mapM (expC h own 8)).map V.agg
  | v => expC h own 8 v
def expV (h : Hp) (own : List Nat) : V → Option V
  | .tup vs => (vs.mapM (exp1 h own)).map V.tup
  | v => exp1 h own v
def roL (h : Hp) (n : Nat) (cs : List V) : Option (List V) := if V.pureL cs = true then some cs else cs.mapM (cellRO h n)
theorem roL_at {h : Hp} {n : Nat} {cs us : List V} (e : roL h n cs = some us) : us.length = cs.length ∧ ∀ (i : Nat) y, us[i]? = some y → ∃ c, cs[i]? = some c ∧ (cellRO h n c = some y ∨ (c = y ∧ y.pure = true)) := by
  unfold roL at e
  split at e
  · rename_i hp
    injection e with e
    subst e
    exact ⟨rfl, fun i y hy => ⟨y, hy, .inr ⟨rfl, pureL_iff.1 hp y (List.mem_of_getElem? hy)⟩⟩⟩
  · refine ⟨(mapM_at e).1.symm, fun i y hy => ?_⟩
    obtain ⟨c, h1, h2⟩ := mapM_getElem e i y hy
    exact ⟨c, h1, .inl h2⟩
def expB (h : Hp) (own : List Nat) (id : Nat) : Option LB := match h id with
  | some b => if b.mp = none then (roL (fun j => if own.contains j then none else h j) 8 b.cells).map fun cs => ⟨0, b.esz, cs, none⟩ else none
  | none => none
/-- What is handed out. -/
theorem exp_out {P : Program} {w w' : World} {φ0 φ' : Nat → Nat × Nat} {S S' : Nat → Prop} {hz : Hp} {val : V} {x : Value} {r : V × List LB} {own : List Nat} (hR : Rel P w φ' S' hz w') (hext : Ext φ0 none0 S w φ' hz S' w')
    (hsub : ∀ b, S' b → b < w.heap.size → S b) (hrep : Rep φ' hz S' w' val x) (hnd : own.Nodup) (hexp : expV hz own val = some r.1) (hblk : own.mapM (expB hz own) = some r.2) :
    ∃ x' φ S1, Ending.returned x = .returned x' ∧ Rel P w φ S1 (addB none0 0 r.2) w' ∧ (∀ r, S r → S1 r) ∧ (∀ r, S1 r → r < w.heap.size → S r) ∧ Rep φ (addB none0 0 r.2) S1 w' r.1 x' := by
  obtain ⟨g1, g2⟩ := mapM_at hblk
  let φ'' : Nat → Nat × Nat := fun k => φ' (own.getD k 0)
  let inOwn : Nat → Prop := fun b => ∃ id, id ∈ own ∧ (φ' id).1 = b
  let S'' : Nat → Prop := fun b => (S' b ∨ (w.heap.size ≤ b ∧ b < w'.heap.size)) ∧ ¬ inOwn b
  have live : ∀ id ∈ own, ∃ b, hz id = some b := by
    intro id hid
    obtain ⟨k, hk⟩ := List.getElem?_of_mem hid
    have hkl := (List.getElem?_eq_some_iff.1 hk).1
    have := g2 k id _ hk (List.getElem?_eq_getElem (by omega))
    unfold expB at this
    split at this
    · split at this
      · exact ⟨_, by assumption⟩
      · cases this
    · cases this
  have notin : ∀ b, S' b → ¬ inOwn b := by
    rintro b hb ⟨id, hid, rfl⟩
    obtain ⟨lb, hlb⟩ := live id hid
    exact (hR.blk _ _ hlb).out hb
  let hM : Hp := fun j => if own.contains j then none else hz j
  have hM0 : ∀ id b, hM id = some b → hz id = some b ∧ id ∉ own := by
    intro id b hb
    simp only [hM] at hb
    split at hb
    · cases hb
    · rename_i hc
      exact ⟨hb, fun q => hc (by simpa using q)⟩
  have hwide : Wide φ' hM S' S'' := by
    refine ⟨fun b hb => ⟨.inl hb, notin b hb⟩, fun id b hb => ?_⟩
    obtain ⟨h1, h2⟩ := hM0 id b hb
    refine ⟨.inr ⟨(hR.blk _ _ h1).lo, hR.lt h1⟩, ?_⟩
    rintro ⟨j, hj, hjb⟩
    obtain ⟨c, hc⟩ := live j hj
    have := hR.inj _ _ _ _ hc h1 hjb
    exact h2 (this ▸ hj)
  have new : ∀ k b, addB none0 0 r.2 k = some b → ∃ id, own[k]? = some id ∧ expB hz own id = some b ∧ φ'' k = φ' id := by
    intro k b hb
    rw [addB_get] at hb
    split at hb
    · rename_i hk
      have hb' : r.2[k]? = some b := by simpa using hb
      have hko : k < own.length := by omega
      have ho := List.getElem?_eq_getElem hko
      refine ⟨own[k], ho, g2 k _ b ho hb', ?_⟩
      simp only [φ'', List.getD_eq_getElem?_getD, ho, Option.getD_some]
    · cases hb
  have hcell : ∀ n v x u, Rep φ' hz S' w' v x → expC hz own n v = some u → Rep φ'' (addB none0 0 r.2) S'' w' u x := by
    intro n v x u rx e
    have gen : cellRO hM n v = some u → Rep φ'' (addB none0 0 r.2) S'' w' u x := fun e => (cellRO_rep hR (fun id b hb => (hM0 id b hb).1) hwide n v x u rx e).1
    unfold expC at e
    split at e
    · rename_i id ver off len cap
      split at e
      · rename_i k hk
        split at e
        · rename_i b hb
          split at e
          · rename_i hver
            injection e with e
            subst e
            cases rx
            rename_i ad c hr
            obtain ⟨b1, q1, q2, q3⟩ := hr
            rw [hb] at q1
            injection q1 with q1
            subst q1
            obtain ⟨oo, p1, p2, p3, p4, p5⟩ := q3 hver
            have hok : own[k]? = some id := ixOf_get hk
            have hkl := (List.getElem?_eq_some_iff.1 hok).1
            have hbk := List.getElem?_eq_getElem (l := r.2) (i := k) (by omega)
            have hek := g2 k id _ hok hbk
            unfold expB at hek
            rw [hb] at hek
            simp only at hek
            split at hek
            rotate_left
            · cases hek
            rw [Option.map_eq_some_iff] at hek
            obtain ⟨cs, hcs, hek⟩ := hek
            refine .sl _ _ _ _ _ _ _ ⟨r.2[k], by rw [addB_get, if_pos (by omega)]; simp, by rw [← hek]; exact Nat.le_refl _, fun _ => ⟨oo, ?_, ?_, ?_, p4, p5⟩⟩
            · rw [p1]
              simp only [φ'', List.getD_eq_getElem?_getD, hok, Option.getD_some]
            · simp only [φ'', List.getD_eq_getElem?_getD, hok, Option.getD_some]
              exact p2
            · simp only [φ'', List.getD_eq_getElem?_getD, hok, Option.getD_some]
              rw [← hek]
              exact p3
          · cases e
        · cases e
      · exact gen e
    · injection e with e
      subst e
      cases rx
      · exact .em0
      · exact .em _
    · exact gen e
  have h1 : ∀ v x u, Rep φ' hz S' w' v x → exp1 hz own v = some u → Rep φ'' (addB none0 0 r.2) S'' w' u x := by
    intro v x u rx e
    unfold exp1 at e
    split at e
    · rename_i cs
      rw [Option.map_eq_some_iff] at e
      obtain ⟨us, hus, rfl⟩ := e
      obtain ⟨k1, k2⟩ := mapM_at hus
      cases rx with
      | agg cs vs q1 q2 q3 =>
        refine .agg us vs (by omega) q2 fun i y v hy hv => ?_
        obtain ⟨c, hc, hcc⟩ := mapM_getElem hus i y hy
        exact hcell 8 c v y (q3 i c v hc hv) hcc
    · exact hcell 8 v x u rx e
  refine ⟨x, φ'', S'', rfl, ⟨hR.below, hR.gl, fun b hb => ?_, fun k b hb => ?_, fun i j b c hi hj hij => ?_⟩, fun b hb => ?_, fun b hb hlt => ?_, ?_⟩
  · rcases hb.1 with q | q
    · exact hR.sin b q
    · exact q.2
  · obtain ⟨id, ho, he, hφ⟩ := new k b hb
    unfold expB at he
    split at he
    · rename_i lb hlb
      split at he
      rotate_left
      · cases he
      rename_i hm0
      rw [Option.map_eq_some_iff] at he
      obtain ⟨cs, hcs, rfl⟩ := he
      obtain ⟨k1, k2⟩ := roL_at hcs
      obtain ⟨l1, l2, l3, l4, -⟩ := hR.blk _ _ hlb
      obtain ⟨arr, el, fz, z1, z2, z3, z4⟩ := l4 hm0
      refine ⟨by rw [hφ]; exact l1, ?_, by rw [hφ]; exact l3, fun _ => ⟨arr, el, fz, by rw [hφ]; exact z1, by rw [hφ]; simp only; omega, z3, fun i y v hy hv => ?_⟩, fun l hl => by cases hl⟩
      · rw [hφ]
        exact fun hs => hs.2 ⟨id, List.mem_of_getElem? ho, rfl⟩
      · rw [hφ] at hv
        obtain ⟨c, hc, hcc⟩ := k2 i y hy
        obtain ⟨q1, q2⟩ := z4 i c v hc hv
        rcases hcc with hcc | ⟨rfl, hp⟩
        · exact ⟨(cellRO_rep hR (fun id b hb => (hM0 id b hb).1) hwide 8 c v y q1 hcc).1, q2⟩
        · exact ⟨pure_rep q1 hwide.s hp, q2⟩
    · cases he
  · obtain ⟨id1, ho1, he1, hφ1⟩ := new i b hi
    obtain ⟨id2, ho2, he2, hφ2⟩ := new j c hj
    rw [hφ1, hφ2] at hij
    obtain ⟨b1, hb1⟩ := live id1 (List.mem_of_getElem? ho1)
    obtain ⟨b2, hb2⟩ := live id2 (List.mem_of_getElem? ho2)
    have := hR.inj _ _ _ _ hb1 hb2 hij
    subst this
    have hp := List.pairwise_iff_getElem.1 hnd
    obtain ⟨hi1, hi2⟩ := List.getElem?_eq_some_iff.1 ho1
    obtain ⟨hj1, hj2⟩ := List.getElem?_eq_some_iff.1 ho2
    rcases Nat.lt_trichotomy i j with q | q | q
    · exact absurd (hi2.trans hj2.symm) (hp i j hi1 hj1 q)
    · exact q
    · exact absurd (hj2.trans hi2.symm) (hp j i hj1 hi1 q)
  · exact ⟨.inl (hext.s b hb), notin b (hext.s b hb)⟩
  · rcases hb.1 with q | q
    · exact hsub b q hlt
    · omega
  · unfold expV at hexp
    split at hexp
    · rename_i vs'
      rw [Option.map_eq_some_iff] at hexp
      obtain ⟨us, hus, hr1⟩ := hexp
      obtain ⟨k1, k2⟩ := mapM_at hus
      rw [← hr1]
      cases hrep with
      | tup cs vs q1 q3 =>
        refine .tup us vs (by omega) fun i y v hy hv => ?_
        obtain ⟨c, hc, hcc⟩ := mapM_getElem hus i y hy
        exact h1 c v y (q3 i c v hc hv) hcc
    · exact h1 _ x _ hrep hexp
theorem OkF.of (hm : P.follows .mixedOrders = true) {f : Nat} {C : Cmd} {ts : List Nat} {nt : Nat} (hf : compF P sh f = some (C, ts, nt)) {args : List V} (nt0 : args.length ≤ nt) {r : V × List LB}
    (hw : wpA P C (fun e s => match e with | .exit _ => False | _ => ∃ own : List Nat, own.Nodup ∧ expV s.h own (resV ts s.t) = some r.1 ∧ own.mapM (expB s.h own) = some r.2) ⟨initT args, none0, 0⟩)
    (hpb : ∀ b ∈ r.2, V.pureL b.cells = true ∧ b.mp = none) : OkF P f args r := by
  refine ⟨hpb, fun w S φ0 vs hG hS hv => ?_⟩
  have hR0 : Rel P w φ0 S none0 w := ⟨Below.refl _ _, hG, hS, fun id b hb => (by cases hb), fun i j b c hi => (by cases hi)⟩
  refine calls_of hm hf nt0 hR0 (fun _ _ => rfl) hv (Q := fun s => ∃ own : List Nat, own.Nodup ∧ expV s.h own (resV ts s.t) = some r.1 ∧ own.mapM (expB s.h own) = some r.2) hw ?_
  rintro s φ' S' w' x ⟨own, hnd, hexp, hblk⟩ hR hext hsub _ hrep
  exact exp_out hR hext hsub hrep hnd hexp hblk
theorem wpA_mono : ∀ (C : Cmd) {Q Q' : E → St → Prop} {s : St}, (∀ e s, Q e s → Q' e s) → wpA P C Q s → wpA P C Q' s := by
  have step : ∀ (op : Cop) (s : St) {K K' : V → Hp → Nat → Option (List Nat) → Option (List Nat) → Prop}, (∀ v h nx rd wr, K v h nx rd wr → K' v h nx rd wr) → stepI P op s K → stepI P op s K' := by
    intro op s K K' hk h
    cases op
    case call f xs => obtain ⟨as, r, h1, h2, h3, h4⟩ := h; exact ⟨as, r, h1, h2, h3, hk _ _ _ _ _ h4⟩
    case shr f xs => obtain ⟨v, h', nx', h1, h2⟩ := h; exact ⟨v, h', nx', h1, hk _ _ _ _ _ h2⟩
    case shq f xs => obtain ⟨v, h1, h2⟩ := h; exact ⟨v, h1, hk _ _ _ _ _ h2⟩
    case calv x xs =>
      simp only [stepI] at h ⊢
      split at h
      · obtain ⟨v, h', nx', h1, h2, h3⟩ := h; exact ⟨v, h', nx', h1, h2, hk _ _ _ _ _ h3⟩
      · exact h
    all_goals
      simp only [stepI] at h ⊢
      split at h
      · exact hk _ _ _ _ _ h
      · exact h
  have run : ∀ (l : List Ins) (s : St) (acc : List FW) {K K' : St → Prop}, (∀ s, K s → K' s) → runL P l s acc K → runL P l s acc K' := by
    intro l
    induction l with
    | nil => intro s acc K K' hk h; exact hk _ h
    | cons i l ih =>
      intro s acc K K' hk h
      unfold runL at h ⊢
      split at h
      · exact step _ _ (fun v h nx rd wr hh => ⟨hh.1, ih _ _ hk hh.2⟩) h
      · exact ih _ _ hk h
      · exact h
  have runN' : ∀ (l : List Ins) (s : St) {K K' : St → Prop}, (∀ s, K s → K' s) → runN P l s K → runN P l s K' := by
    intro l
    induction l with
    | nil => intro s K K' hk h; exact hk _ h
    | cons i l ih =>
      intro s K K' hk h
      unfold runN at h ⊢
      split at h
      · exact step _ _ (fun v h nx rd wr hh => ih _ hk hh) h
      · exact ih _ hk h
      · exact h
  intro C
  induction C with
  | skip => intro Q Q' s hq h; exact hq _ _ h
  | reg d l =>
    intro Q Q' s hq h
    cases d with
    | true => exact run _ _ _ (hq _) h
    | false => exact runN' _ _ (hq _) h
  | seq a b iha ihb =>
    intro Q Q' s hq h
    refine iha (fun e s' h' => ?_) h
    cases e with
    | norm => exact ihb hq h'
    | exit id => exact hq _ _ h'
    | ret => exact hq _ _ h'
  | cond c a b iha ihb =>
    intro Q Q' s hq h
    simp only [wpA] at h ⊢
    split at h
    · exact iha hq h
    · exact ihb hq h
    · exact h
  | block id c ih =>
    intro Q Q' s hq h
    refine ih (fun e s' h' => ?_) h
    cases e with
    | norm => exact hq _ _ h'
    | exit i =>
      simp only at h' ⊢
      split at h'
      · rename_i q; rw [if_pos q]; exact hq _ _ h'
      · rename_i q; rw [if_neg q]; exact hq _ _ h'
    | ret => exact hq _ _ h'
  | loop c ih =>
    intro Q Q' s hq ⟨I, μ, hI, hr⟩
    refine ⟨I, μ, hI, fun s hs => ih (fun e s' h' => ?_) (hr s hs)⟩
    cases e with
    | norm => exact h'
    | exit i => exact hq _ _ h'
    | ret => exact hq _ _ h'
  | exit id => intro Q Q' s hq h; exact hq _ _ h
  | ret => intro Q Q' s hq h; exact hq _ _ h
/-- A function all of whose results only read. -/
theorem OkF.of0 (hm : P.follows .mixedOrders = true) {f : Nat} {C : Cmd} {ts : List Nat} {nt : Nat} (hf : compF P sh f = some (C, ts, nt)) {args : List V} (nt0 : args.length ≤ nt) {v : V}
    (hw : wpA P C (fun e s => match e with | .exit _ => False | _ => expV s.h [] (resV ts s.t) = some v) ⟨initT args, none0, 0⟩) : OkF P f args (v, []) := by
  refine OkF.of hm hf nt0 (wpA_mono C (fun e s h => ?_) hw) (fun b hb => by cases hb)
  cases e with
  | exit id => exact h
  | _ => exact ⟨[], .nil, h, rfl⟩
/-- A function that answers with a slice of no elements and of no room. -/
theorem OkF.em (hm : P.follows .mixedOrders = true) {f : Nat} {C : Cmd} {ts : List Nat} {nt : Nat} (hf : compF P sh f = some (C, ts, nt)) {args : List V} (nt0 : args.length ≤ nt)
    (hw : wpA P C (fun e s => match e with | .exit _ => False | _ => resV ts s.t = .ns ∨ ∃ id ver off b, resV ts s.t = .sl id ver off 0 (some 0) ∧ s.h id = some b ∧ b.ver = ver) ⟨initT args, none0, 0⟩) : OkF P f args (.em, []) := by
  refine ⟨fun b hb => (by cases hb), fun w S φ0 vs hG hS hv => ?_⟩
  have hR0 : Rel P w φ0 S none0 w := ⟨Below.refl _ _, hG, hS, fun id b hb => (by cases hb), fun i j b c hi => (by cases hi)⟩
  refine calls_of hm hf nt0 hR0 (fun _ _ => rfl) hv (Q := fun s => resV ts s.t = .ns ∨ ∃ id ver off b, resV ts s.t = .sl id ver off 0 (some 0) ∧ s.h id = some b ∧ b.ver = ver) hw ?_
  intro s φ' S' w' x hq hR hext hsub _ hrep
  refine ⟨x, φ', S', rfl, ⟨hR.below, hR.gl, hR.sin, fun id b hb => (by cases hb), fun i j b c hi => (by cases hi)⟩, fun b hb => hext.s b hb, fun b hb hlt => hsub b hb hlt, ?_⟩
  rcases hq with e | ⟨id, ver, off, b, e, hb, hver⟩
  · rw [e] at hrep
    cases hrep
    exact .em0
  · rw [e] at hrep
    cases hrep
    rename_i a c hr
    obtain ⟨b1, q1, q2, q3⟩ := hr
    rw [hb] at q1
    injection q1 with q1
    subst q1
    obtain ⟨oo, p1, p2, p3, p4, p5⟩ := q3 hver
    subst p1
    have := p5 0 rfl
    subst this
    exact .em _
omit sh in
/-- A parameter that is an empty slice is nil, or not. -/
theorem OkF.empty {f : Nat} {r : V × List LB} (h1 : OkF P f [.ns] r) (h2 : OkF P f [.ne] r) : OkF P f [.ro 0 []] r := by
  refine ⟨h1.1, fun w S φ0 vs hG hS hv => ?_⟩
  have hsz : vs.size = 1 := hv.1
  obtain ⟨v, rfl⟩ : ∃ v, vs = #[v] := by
    obtain ⟨l⟩ := vs
    match l, hsz with
    | [v], _ => exact ⟨v, rfl⟩
  have hr := hv.2 0 _ v rfl rfl
  cases hr with
  | roN => exact h1.2 w S φ0 _ hG hS ⟨rfl, fun i c v hc hv => by
      match i with
      | 0 => simp at hc hv; subst hc hv; exact .ns
      | i + 1 => simp at hc⟩
  | ro n cs a c vs => exact h2.2 w S φ0 _ hG hS ⟨rfl, fun i c v hc hv => by
      match i with
      | 0 => simp at hc hv; subst hc hv; exact .ne _ _
      | i + 1 => simp at hc⟩
end
end Go.Ex
