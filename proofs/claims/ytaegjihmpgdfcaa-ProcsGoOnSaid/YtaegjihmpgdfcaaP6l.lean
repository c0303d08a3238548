/- The runner: its blocks, and its small functions. -/
import Derived.Test.YtaegjihmpgdfcaaP6k
import Derived.Test.YtaegjihmpgdfcaaP6E
set_option linter.unusedVariables false
set_option linter.unusedSimpArgs false
set_option maxRecDepth 10000
set_option maxHeartbeats 4000000
namespace Go.Proofs.P6
open Go.Ex
/-- The top of a row of places. -/
structure Tp (h : Hp) (nx : Nat) (v : V) (a : List Place) (x : Place) (id ver off : Nat) (cells : List V) : Prop where
  v : ∃ o cap, v = .sl id ver o (a.length + 1) cap ∧ off = o + a.length * 3 ∧ o + (a.length + 1) * 3 ≤ cells.length ∧ (cells.drop o).take ((a.length + 1) * 3) = fl placeCd (a ++ [x])
  lt : id < nx
  hb : h id = some ⟨ver, 3, cells, none⟩
theorem place_sz : placeCd.sz = 3 := rfl
theorem Tp.of {h : Hp} {nx : Nat} {v : V} {a : List Place} {x : Place} (hA : Acc placeCd h nx v (a ++ [x])) : ∃ id ver off cells, ownOf v = some id ∧ Tp h nx v a x id ver off cells := by
  rcases hA with ⟨_, h2⟩ | ⟨id, ver, off, cap, cells, rfl, h2, h3, h4, h5⟩
  · simp at h2
  · rw [place_sz] at h3 h4 h5
    simp only [List.length_append, List.length_singleton] at h4 h5 ⊢
    exact ⟨id, ver, off + a.length * 3, cells, rfl, ⟨off, cap, rfl, rfl, h4, h5⟩, h2, h3⟩
theorem Tp.acc {h : Hp} {nx : Nat} {v : V} {a : List Place} {x : Place} {id ver off : Nat} {cells : List V} (hT : Tp h nx v a x id ver off cells) : Acc placeCd h nx v (a ++ [x]) := by
  obtain ⟨o, cap, e1, e2, e3, e4⟩ := hT.v
  refine .inr ⟨id, ver, o, cap, cells, by rw [e1]; simp, hT.lt, hT.hb, ?_, ?_⟩
  · rw [place_sz]; simpa using e3
  · rw [place_sz]; simpa using e4
theorem Tp.own {h : Hp} {nx : Nat} {v : V} {a : List Place} {x : Place} {id ver off : Nat} {cells : List V} (hT : Tp h nx v a x id ver off cells) : ownOf v = some id := by
  obtain ⟨o, cap, e1, _⟩ := hT.v
  rw [e1]; rfl
theorem flp_snoc (a : List Place) (x : Place) : fl placeCd (a ++ [x]) = fl placeCd a ++ placeV x := by
  rw [fl_append]
  congr 1
theorem Tp.get {h : Hp} {nx : Nat} {v : V} {a : List Place} {x : Place} {id ver off : Nat} {cells : List V} (hT : Tp h nx v a x id ver off cells) :
    cells[off]? = some (.str x.1) ∧ cells[off + 1]? = some (.int .i64 x.2.1) ∧ cells[off + 2]? = some (.int .i64 x.2.2) ∧ off + 3 ≤ cells.length := by
  obtain ⟨o, cap, e1, e2, e3, e4⟩ := hT.v
  have g : ∀ j, j < 3 → cells[off + j]? = (placeV x)[j]? := by
    intro j hj
    have : (fl placeCd (a ++ [x]))[a.length * 3 + j]? = (placeV x)[j]? := by
      rw [flp_snoc, List.getElem?_append_right (by rw [flat_len, place_sz]; omega), flat_len, place_sz]
      congr 1
      omega
    rw [← this, ← e4, List.getElem?_take, if_pos (by omega), List.getElem?_drop]
    congr 1
    omega
  refine ⟨g 0 (by omega), g 1 (by omega), g 2 (by omega), by omega⟩
theorem Tp.ia {h : Hp} {nx : Nat} {v : V} {a : List Place} {x : Place} {id ver off : Nat} {cells : List V} (hT : Tp h nx v a x id ver off cells) {kk : IntKind} {K : V → List Nat → Prop} : iaddrK h v (.int kk a.length) 3 K ⟨⟩ = K (.pt id ver off) [id] := by
  obtain ⟨o, cap, e1, e2, e3, e4⟩ := hT.v
  rw [e1]
  simp only [iaddrK, hT.hb, guardK]
  subst e2
  simp
  omega
theorem Tp.ln {h : Hp} {nx : Nat} {v : V} {a : List Place} {x : Place} {id ver off : Nat} {cells : List V} (hT : Tp h nx v a x id ver off cells) : lenA false v = some (.int .i64 ((a.length + 1 : Nat) : Int)) := by
  obtain ⟨o, cap, e1, _⟩ := hT.v
  rw [e1]; rfl
theorem Tp.set {h : Hp} {nx : Nat} {v : V} {a : List Place} {x y : Place} {id ver off : Nat} {cells : List V} (hT : Tp h nx v a x id ver off cells) {j : Nat} {u : V} (hj : j < 3) (hy : placeV y = (placeV x).set j u) :
    Tp (upd h id (some ⟨ver, 3, cells.set (off + j) u, none⟩)) nx v a y id ver off (cells.set (off + j) u) := by
  obtain ⟨o, cap, e1, e2, e3, e4⟩ := hT.v
  refine ⟨⟨o, cap, e1, e2, by simpa using e3, ?_⟩, hT.lt, by simp [upd]⟩
  rw [flp_snoc] at e4 ⊢
  apply List.ext_getElem?
  intro i
  have e4' : ∀ i : Nat, ((cells.drop o).take ((a.length + 1) * 3))[i]? = (fl placeCd a ++ placeV x)[i]? := fun i => by rw [e4]
  have := e4' i
  rw [List.getElem?_take] at this ⊢
  have hfl : (fl placeCd a).length = a.length * 3 := by rw [flat_len, place_sz]
  split
  · rename_i hi
    rw [if_pos hi, List.getElem?_drop] at this
    rw [List.getElem?_drop, List.getElem?_set, hy]
    by_cases q : off + j = o + i
    · rw [if_pos q, if_pos (by omega), List.getElem?_append_right (by omega), hfl, List.getElem?_set, if_pos (by omega), if_pos (by simp [placeV]; omega)]
    · rw [if_neg q, this]
      by_cases q2 : i < a.length * 3
      · rw [List.getElem?_append_left (by omega), List.getElem?_append_left (by omega)]
      · rw [List.getElem?_append_right (by omega), List.getElem?_append_right (by omega), List.getElem?_set, if_neg (by omega)]
  · symm
    rename_i hi
    rw [List.getElem?_eq_none]
    simp [hfl, placeV]
    omega
theorem Tp.mono {h h' : Hp} {nx nx' : Nat} {v : V} {a : List Place} {x : Place} {id ver off : Nat} {cells : List V} (hT : Tp h nx v a x id ver off cells) (hn : nx ≤ nx') (hh : h' id = h id) : Tp h' nx' v a x id ver off cells :=
  ⟨hT.v, by have := hT.lt; omega, by rw [hh]; exact hT.hb⟩
/-- A procedure that goes, in its blocks: C tells the cells of the first one. -/
structure Rn (C : V → V → Int → Int → Int → List V) (h : Hp) (nx rid : Nat) (a : List Place) (x : Place) (now done all : Int) (did : List Did) (pv dv : V) (id ver off : Nat) (cells : List V) : Prop where
  r : h rid = some ⟨0, 0, C pv dv now done all, none⟩
  lt : rid < nx
  tp : Tp h nx pv a x id ver off cells
  dd : Acc didCd h nx dv did
  n1 : id ≠ rid
  n2 : ownOf dv ≠ some rid
  n3 : ownOf dv ≠ some id
def Rs (C : V → V → Int → Int → Int → List V) (h : Hp) (nx rid : Nat) (m : M) : Prop := ∃ pv dv, h rid = some ⟨0, 0, C pv dv m.now m.done m.all, none⟩ ∧ rid < nx ∧ Acc placeCd h nx pv m.pl ∧ Acc didCd h nx dv m.did ∧ ownOf pv ≠ some rid ∧ ownOf dv ≠ some rid ∧ (∀ j, ownOf pv = some j → ownOf dv ≠ some j)
section
variable {C : V → V → Int → Int → Int → List V} {h h' : Hp} {nx nx' rid : Nat} {a : List Place} {x : Place} {now done all : Int} {did : List Did} {pv dv : V} {id ver off : Nat} {cells : List V} {m : M}
theorem Rs.open (hs : Rs C h nx rid m) (hm : m.pl = a ++ [x]) : ∃ pv dv id ver off cells, Rn C h nx rid a x m.now m.done m.all m.did pv dv id ver off cells := by
  obtain ⟨pv, dv, h1, h2, h3, h4, h5, h6, h7⟩ := hs
  rw [hm] at h3
  obtain ⟨id, ver, off, cells, e1, hT⟩ := Tp.of h3
  exact ⟨pv, dv, id, ver, off, cells, h1, h2, hT, h4, fun q => h5 (by rw [e1, q]), h6, h7 id e1⟩
theorem Rn.close (hn : Rn C h nx rid a x now done all did pv dv id ver off cells) : Rs C h nx rid ⟨a ++ [x], now, done, all, did⟩ :=
  ⟨pv, dv, hn.r, hn.lt, hn.tp.acc, hn.dd, fun q => hn.n1 (by rw [hn.tp.own] at q; injection q), hn.n2, fun j hj => by rw [hn.tp.own] at hj; injection hj with hj; rw [← hj]; exact hn.n3⟩
theorem Rn.mono (hn : Rn C h nx rid a x now done all did pv dv id ver off cells) (hx : nx ≤ nx') (hh : ∀ j, j < nx → h' j = h j) : Rn C h' nx' rid a x now done all did pv dv id ver off cells :=
  ⟨by rw [hh _ hn.lt]; exact hn.r, by have := hn.lt; omega, hn.tp.mono hx (hh _ hn.tp.lt), hn.dd.mono hx hh, hn.n1, hn.n2, hn.n3⟩
theorem Rn.fr (hn : Rn C h nx rid a x now done all did pv dv id ver off cells) {now' done' all' : Int} (hx : nx ≤ nx') (h1 : h' rid = some ⟨0, 0, C pv dv now' done' all', none⟩) (hh : ∀ j, j < nx → j ≠ rid → h' j = h j) : Rn C h' nx' rid a x now' done' all' did pv dv id ver off cells :=
  ⟨h1, by have := hn.lt; omega, hn.tp.mono hx (hh _ hn.tp.lt hn.n1), hn.dd.keep hx fun j hj ho => hh j hj fun q => hn.n2 (by rw [ho, q]), hn.n1, hn.n2, hn.n3⟩
/-- The top is another one. -/
theorem Rn.up (hn : Rn C h nx rid a x now done all did pv dv id ver off cells) {y : Place} {cells' : List V} (hT : Tp h' nx' pv a y id ver off cells') (hx : nx ≤ nx') (hh : ∀ j, j < nx → j ≠ id → h' j = h j) : Rn C h' nx' rid a y now done all did pv dv id ver off cells' :=
  ⟨by rw [hh _ hn.lt (fun q => hn.n1 q.symm)]; exact hn.r, by have := hn.lt; omega, hT, hn.dd.keep hx fun j hj ho => hh j hj fun q => hn.n3 (by rw [ho, q]), hn.n1, hn.n2, hn.n3⟩
end
/-- The runner's cells. -/
def C1 (p : List Prc) (f : List Fact) (until' : Int) (pv dv : V) (now done all : Int) : List V := [.ro p.length (fl procCd p), pv, .ro f.length (fl factCd f), .int .i64 now, .int .i64 until', .int .i64 done, .int .i64 all, dv]
section
variable {p : List Prc} {f : List Fact} {until' : Int} {h : Hp} {nx rid : Nat} {a : List Place} {x : Place} {now done all : Int} {did : List Did} {pv dv : V} {id ver off : Nat} {cells : List V}
theorem wlen {a : List Place} (ha : a.length < 2 ^ 62) : IntKind.i64.wrap (a.length : Int) = (a.length : Int) := by
  have := Go.Ex.e62
  exact IntWalk.i64_in _ (by omega)
theorem top_ok (hR : Rn (C1 p f until') h nx rid a x now done all did pv dv id ver off cells) (ha : a.length < 2 ^ 62) : SEx Try.prog 119 [.pt rid 0 0] h nx (fun v h' nx' => v = .pt id ver off ∧ h' = h ∧ nx' = nx) := by
  have r := hR.r
  have hw := wlen ha
  have hl := hR.tp.ln
  simp only [C1] at r
  refine SEx.of hm h119 (of_decide_eq_true rfl) ?_
  unfold c119
  simp -dsimp [r, hl, hw, hR.tp.ia]
theorem steps_ok (hR : Rn (C1 p f until') h nx rid a x now done all did pv dv id ver off cells) (ha : a.length < 2 ^ 62) (hp : p.length < 2 ^ 62) (h0 : 0 ≤ prI p x.1) : SEx Try.prog 120 [.pt rid 0 0] h nx (fun v h' nx' => v = .ro (stepsOf p x.1).length (fl stepCd (stepsOf p x.1)) ∧ h' = h ∧ nx' = nx) := by
  have r := hR.r
  obtain ⟨g0, g1, g2, g3⟩ := hR.tp.get
  have hb := hR.tp.hb
  simp only [C1] at r
  obtain ⟨pr, hpr, _, hst⟩ := stepsOf_get h0
  have hia : ∀ h K, iaddrK h (.ro p.length (fl procCd p)) (.int .i64 (prI p x.1)) 2 K ⟨⟩ = K (.rp (fl procCd p) ((prI p x.1).toNat * 2)) [] := fun h K => by
    have := proc_ia (h := h) (kk := .i64) (K := K) hpr
    rw [show ((prI p x.1).toNat : Int) = prI p x.1 by omega] at this
    exact this
  refine SEx.of hm h120 (of_decide_eq_true rfl) ?_
  unfold c120
  simp -dsimp [r]
  refine shq_ex (top_ok hR ha) ?_
  rintro v rfl
  simp -dsimp [hb, g0]
  refine call_int (procAt_ok p x.1 hp) ?_
  simp -dsimp [hia, proc_l1 hpr, hst]
/-- The top goes on. -/
def OnQ (p : List Prc) (f : List Fact) (until' : Int) (h : Hp) (nx rid : Nat) (a : List Place) (y : Place) (now done all : Int) (did : List Did) (pv dv : V) (id ver off : Nat) (h' : Hp) (nx' : Nat) : Prop :=
  nx' = nx ∧ ∃ cells', (∀ j, j ≠ id → h' j = h j) ∧ Rn (C1 p f until') h' nx rid a y now done all did pv dv id ver off cells'
theorem on_ok (hR : Rn (C1 p f until') h nx rid a x now done all did pv dv id ver off cells) (ha : a.length < 2 ^ 62) (k : Int) :
    SEx Try.prog 122 [.pt rid 0 0, .int .i64 k] h nx (fun v h' nx' => OnQ p f until' h nx rid a (x.1, k, -1) now done all did pv dv id ver off h' nx') := by
  have hb := hR.tp.hb
  obtain ⟨g0, g1, g2, g3⟩ := hR.tp.get
  have hT1 := hR.tp.set (y := (x.1, k, x.2.2)) (j := 1) (u := .int .i64 k) (by omega) rfl
  have hT2 := hT1.set (y := (x.1, k, -1)) (j := 2) (u := .int .i64 (-1)) (by omega) rfl
  have hR2 := hR.up hT2 (Nat.le_refl _) (fun j hj hne => by simp [hne])
  have e3 : off + 1 + 1 ≤ cells.length := by omega
  have e4 : off + 2 + 1 ≤ cells.length := by omega
  refine SEx.of hm h122 (of_decide_eq_true rfl) ?_
  unfold c122
  simp -dsimp
  refine shq_ex (top_ok hR ha) ?_
  rintro v rfl
  simp -dsimp
  refine shq_ex (top_ok hR ha) ?_
  rintro v rfl
  simp -dsimp [hb, V.storable, putL, e3, e4]
  exact ⟨rfl, _, fun j hj => by simp [hj], hR2⟩
theorem label_ok (hR : Rn (C1 p f until') h nx rid a x now done all did pv dv id ver off cells) (ha : a.length < 2 ^ 62) (hp : p.length < 2 ^ 62) (h0 : 0 ≤ prI p x.1) (hl : (stepsOf p x.1).length ≤ 200) (s : List UInt8) :
    SEx Try.prog 123 [.pt rid 0 0, .str s] h nx (fun v h' nx' => OnQ p f until' h nx rid a (x.1, labI (stepsOf p x.1) s + 1, -1) now done all did pv dv id ver off h' nx') := by
  have e62 := Go.Ex.e62
  have hlt := labI_lt (stepsOf p x.1) s
  have hw : IntKind.i64.wrap (labI (stepsOf p x.1) s + 1) = labI (stepsOf p x.1) s + 1 := IntWalk.i64_in _ (by
    rcases ixI_cases (isLab s) (stepsOf p x.1) with ⟨h1, _⟩ | ⟨k, _, h1, _⟩ <;> unfold labI at * <;> omega)
  refine SEx.of hm h123 (of_decide_eq_true rfl) ?_
  unfold c123
  simp -dsimp
  refine shq_ex (steps_ok hR ha hp h0) ?_
  rintro v rfl
  simp -dsimp
  refine call_int (labelAt_ok _ s (by omega)) ?_
  have hw' : IntKind.i64.wrap (ixI (isLab s) (stepsOf p x.1) + 1) = labI (stepsOf p x.1) s + 1 := hw
  simp -dsimp [hw']
  refine shr_ex (on_ok hR ha _) ?_
  intro v h' nx' hq
  simp -dsimp
  exact hq
def PassQ (p : List Prc) (f : List Fact) (until' : Int) (h : Hp) (nx rid : Nat) (a : List Place) (x : Place) (now done all : Int) (did : List Did) (pv dv : V) (id ver off : Nat) (cells : List V) (t : Int) (v : V) (h' : Hp) (nx' : Nat) : Prop :=
  v = .bool (decide (t ≤ until')) ∧ nx' = nx ∧ (∀ j, j ≠ rid → h' j = h j) ∧ (until' < t → h' = h) ∧
      (t ≤ until' → Rn (C1 p f until') h' nx rid a x (if now < t then t else now) (if now < t then 0 else done) all did pv dv id ver off cells)
theorem pass_ok (hR : Rn (C1 p f until') h nx rid a x now done all did pv dv id ver off cells) (t : Int) :
    SEx Try.prog 159 [.pt rid 0 0, .int .i64 t] h nx (PassQ p f until' h nx rid a x now done all did pv dv id ver off cells t) := by
  have r := hR.r
  simp only [C1] at r
  refine SEx.of hm h159 (of_decide_eq_true rfl) ?_
  unfold c159
  simp -dsimp [r]
  refine condK_of ?_ ?_ <;> intro q <;> simp -dsimp [q, r]
  · simp at q
    exact ⟨by simp; omega, rfl, fun _ _ => rfl, fun _ => rfl, fun _ => by omega⟩
  simp at q
  refine condK_of ?_ ?_ <;> intro q1 <;> simp -dsimp [q1, r, V.storable, putL]
  · simp at q1
    refine ⟨by simp; omega, rfl, fun j hj => by simp [hj], fun _ => by omega, fun _ => ?_⟩
    rw [if_pos q1, if_pos q1]
    exact hR.fr (Nat.le_refl _) (by simp [C1]) (fun j hj hne => by simp [hne])
  · simp at q1
    refine ⟨by simp; omega, rfl, fun _ _ => rfl, fun _ => rfl, fun _ => ?_⟩
    rw [if_neg (by omega), if_neg (by omega)]
    exact hR
end
end Go.Proofs.P6
