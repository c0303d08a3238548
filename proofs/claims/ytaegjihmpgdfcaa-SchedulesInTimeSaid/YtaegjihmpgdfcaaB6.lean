/- Moved schedules in plain Lean: what is in order is one, whichever way it was put in order; Shifts in plain Lean: what is shifted is right, and comes back; ; slices.SortFunc of entries, as a contract; slices.SortFunc of entries: byTime walked in the model itself; Shift of the program; Shift of both sides; Shift of the reference; The laws of shifts. -/
import Derived.Test.YtaegjihmpgdfcaaB5
import Derived.Shelf.SlGeneric
import Derived.Shelf.SlSortCmp.WholeK
import Derived.Shelf.SlSortCmp.NoneTotal
import Derived.Ground.SlsfProg
import Derived.Shelf.Small.Bits
import Derived.Shelf.Small.Strs
import Derived.Shelf.Small.Wraps
import Derived.Shelf.Strconv.Itoa0
import Derived.Shelf.Slices.Turned
import Derived.Ground.Names2Prog
import Derived.Shelf.Slices.SearchI
import Derived.Test.YtaegjihmpgdfcaaProg
import Derived.Test.YtaegjihmpgdfcaaExX
import Derived.Lib.RowBridge
import Derived.Deep.RegionWith
section
set_option linter.unusedVariables false
set_option linter.unusedSimpArgs false
namespace Go.Proofs.P6
open Go.Ex
theorem befE_irr (a : Entry) : befE a a = false := by simp [befE]
theorem befE_asym {a b : Entry} (h : befE a b = true) : befE b a = false := by
  cases q : befE b a with
  | false => rfl
  | true =>
    have := befE_trans h q
    rw [befE_irr] at this
    cases this
/-- Two rows in order with the same entries are one. -/
theorem srt_eq : ∀ {l m : List Entry}, Srt l → Srt m → (∀ x, x ∈ l ↔ x ∈ m) → l = m
  | [], [], _, _, _ => rfl
  | [], b :: m, _, _, h => by have := (h b).2 (by simp); simp at this
  | a :: l, [], _, _, h => by have := (h a).1 (by simp); simp at this
  | a :: l, b :: m, hl, hm, h => by
    obtain ⟨h1, h2⟩ := List.pairwise_cons.1 hl
    obtain ⟨h3, h4⟩ := List.pairwise_cons.1 hm
    have hab : a = b := by
      apply Classical.byContradiction
      intro hne
      have ha := (h a).1 (by simp)
      have hb := (h b).2 (by simp)
      rcases List.mem_cons.1 ha with q | q
      · exact hne q
      rcases List.mem_cons.1 hb with q2 | q2
      · exact hne q2.symm
      have e1 := h3 a q
      have e2 := h1 b q2
      rw [befE_asym e1] at e2
      cases e2
    subst hab
    congr 1
    refine srt_eq h2 h4 fun x => ⟨fun hx => ?_, fun hx => ?_⟩
    · rcases List.mem_cons.1 ((h x).1 (List.mem_cons_of_mem _ hx)) with q | q
      · subst q
        have := h1 x hx
        rw [befE_irr] at this
        cases this
      · exact q
    · rcases List.mem_cons.1 ((h x).2 (List.mem_cons_of_mem _ hx)) with q | q
      · subst q
        have := h3 x hx
        rw [befE_irr] at this
        cases this
      · exact q
/-- Entries put one after the other. -/
def insAll (b : List Entry) : List Entry → List Entry
  | [] => b
  | x :: l => insAll (ins b x) l
theorem insAll_snoc : ∀ (l b : List Entry) (x : Entry), insAll b (l ++ [x]) = ins (insAll b l) x
  | [], b, x => rfl
  | y :: l, b, x => insAll_snoc l (ins b y) x
theorem insAll_ok : ∀ (l b : List Entry), Srt b → Ids (b ++ l) → Srt (insAll b l) ∧ (insAll b l).Perm (b ++ l)
  | [], b, hb, _ => ⟨hb, by simp [insAll]⟩
  | x :: l, b, hb, hi => by
    have hx : ∀ y ∈ b, y.1 ≠ x.1 := fun y hy he => by
      unfold Ids at hi
      rw [List.map_append, List.nodup_append] at hi
      exact hi.2.2 y.1 (List.mem_map_of_mem hy) x.1 (by simp) he
    have hp := ins_perm b x
    have hpp : (ins b x ++ l).Perm (b ++ x :: l) := ((hp.append_right l).trans (List.perm_middle.symm))
    have hi2 : Ids (ins b x ++ l) := ((hpp.map (·.1)).nodup_iff).2 hi
    obtain ⟨h1, h2⟩ := insAll_ok l (ins b x) (ins_srt hb hx) hi2
    exact ⟨h1, h2.trans hpp⟩
/-- An entry, later. -/
def mvE (f : Entry → Bool) (by' : Int) (x : Entry) : Entry := if f x = true then (x.1, x.2.1 + by', x.2.2) else x
theorem mvE_id (f : Entry → Bool) (by' : Int) (x : Entry) : (mvE f by' x).1 = x.1 := by unfold mvE; split <;> rfl
theorem mvE_rest (f : Entry → Bool) (by' : Int) (x : Entry) : (mvE f by' x).2.2 = x.2.2 := by unfold mvE; split <;> rfl
/-- It can be moved. -/
def mvB (f : Entry → Bool) (by' : Int) (x : Entry) : Bool := !f x || inB (x.2.1 + by') 0 1000000000000
/-- A schedule of which some are later; no schedule, if one can't be. -/
def mvAll (f : Entry → Bool) (by' : Int) (l : List Entry) : List Entry × Int := if l.all (mvB f by') = true then (insAll [] (l.map (mvE f by')), 0) else ([], 1)
theorem mv_ids {f : Entry → Bool} {by' : Int} {l : List Entry} (h : Ids l) : Ids (l.map (mvE f by')) := by
  unfold Ids at *
  rw [List.map_map, show ((fun x : Entry => x.1) ∘ mvE f by') = (fun x : Entry => x.1) from funext fun x => mvE_id f by' x]
  exact h
/-- What a sort makes of moved entries. -/
theorem mv_sorted {f : Entry → Bool} {by' : Int} {l m : List Entry} (h : Ids l) (hs : Srt m) (hp : m.Perm (l.map (mvE f by'))) : m = insAll [] (l.map (mvE f by')) := by
  obtain ⟨h1, h2⟩ := insAll_ok (l.map (mvE f by')) [] List.Pairwise.nil (by simpa using mv_ids h)
  exact srt_eq hs h1 fun x => by rw [hp.mem_iff, h2.mem_iff]; simp
theorem srt_of {m : List Entry} (h : m.Pairwise fun a b => befE b a = false) (hi : Ids m) : Srt m := by
  unfold Srt
  have h2 : m.Pairwise fun a b => a.1 ≠ b.1 := by
    unfold Ids at hi
    rw [List.nodup_iff_pairwise_ne, List.pairwise_map] at hi
    exact hi
  exact (h.and h2).imp fun {a b} hab => by rw [befE_total hab.2, hab.1]; rfl
end Go.Proofs.P6
end
section
set_option linter.unusedVariables false
set_option linter.unusedSimpArgs false
namespace Go.Proofs.P6
open Go.Ex
theorem grp_list (l : List Entry) : ∀ k, k ≤ l.length → ∃ m : List (List UInt8), m.Nodup ∧ m.length = grpN l k ∧ ∀ g, g ∈ m ↔ (g ≠ [] ∧ ∃ y ∈ l.take k, y.2.2.2.1 = g)
  | 0, _ => ⟨[], List.nodup_nil, rfl, by simp⟩
  | k + 1, hk => by
    obtain ⟨m, h1, h2, h3⟩ := grp_list l k (by omega)
    have hg : l[k]? = some l[k] := List.getElem?_eq_getElem (by omega)
    have ht : l.take (k + 1) = l.take k ++ [l[k]] := List.take_succ_eq_append_getElem (by omega)
    have hN : grpN l (k + 1) = grpN l k + if fstB l l[k] k = true then 1 else 0 := by simp [grpN, firstAt, hg]
    generalize l[k] = x at *
    rw [hN, ht]
    by_cases q : fstB l x k = true
    · rw [if_pos q]
      have q' := q
      unfold fstB at q'
      simp only [Bool.and_eq_true, Bool.not_eq_true', decide_eq_false_iff_not, List.all_eq_true] at q'
      refine ⟨m ++ [x.2.2.2.1], ?_, by simp [h2], fun g => ?_⟩
      · rw [List.nodup_append]
        refine ⟨h1, by simp, fun a ha b hb => ?_⟩
        rw [List.mem_singleton.1 hb]
        rintro rfl
        obtain ⟨_, y, hy, he⟩ := (h3 _).1 ha
        exact q'.2 y hy he
      · rw [List.mem_append, h3, List.mem_singleton]
        constructor
        · rintro (⟨a, y, hy, he⟩ | rfl)
          · exact ⟨a, y, List.mem_append_left _ hy, he⟩
          · exact ⟨q'.1, x, by simp, rfl⟩
        · rintro ⟨a, y, hy, he⟩
          rcases List.mem_append.1 hy with hy | hy
          · exact .inl ⟨a, y, hy, he⟩
          · rw [List.mem_singleton.1 hy] at he
            exact .inr he.symm
    · rw [if_neg q]
      refine ⟨m, h1, by simp [h2], fun g => ?_⟩
      rw [h3]
      constructor
      · rintro ⟨a, y, hy, he⟩
        exact ⟨a, y, List.mem_append_left _ hy, he⟩
      · rintro ⟨a, y, hy, he⟩
        refine ⟨a, ?_⟩
        rcases List.mem_append.1 hy with hy | hy
        · exact ⟨y, hy, he⟩
        · rw [List.mem_singleton.1 hy] at he
          have q' : fstB l x k = false := by simpa using q
          unfold fstB at q'
          rw [Bool.and_eq_false_iff] at q'
          rcases q' with q' | q'
          · simp at q'
            exact absurd (he.symm.trans q') a
          · rw [List.all_eq_false] at q'
            obtain ⟨z, hz, hzz⟩ := q'
            exact ⟨z, hz, by simpa [he] using hzz⟩
theorem grp_le {l m : List Entry} (h : ∀ y ∈ l, ∃ z ∈ m, z.2.2.2.1 = y.2.2.2.1) : grpN l l.length ≤ grpN m m.length := by
  obtain ⟨a, a1, a2, a3⟩ := grp_list l l.length (Nat.le_refl _)
  obtain ⟨b, b1, b2, b3⟩ := grp_list m m.length (Nat.le_refl _)
  rw [← a2, ← b2]
  refine length_le a b a1 fun g hg => ?_
  obtain ⟨h1, y, hy, he⟩ := (a3 g).1 hg
  rw [List.take_length] at hy
  obtain ⟨z, hz, hzz⟩ := h y hy
  exact (b3 g).2 ⟨h1, z, by rw [List.take_length]; exact hz, hzz.trans he⟩
/-- An entry of a group (an empty one: all). -/
def fG (g : List UInt8) (x : Entry) : Bool := decide (g = []) || decide (x.2.2.2.1 = g)
def shE (l : List Entry) (g : List UInt8) (by' : Int) : List Entry × Int := if entsE l ≠ 0 then ([], entsE l) else if g ≠ [] ∧ nm g = false then ([], 5) else if inB by' (-1000000000) 1000000000 = false then ([], 1) else mvAll (fG g) by' l
theorem fG_mv (g : List UInt8) (by' : Int) (x : Entry) : fG g (mvE (fG g) by' x) = fG g x := by
  have := mvE_rest (fG g) by' x
  unfold fG at *
  rw [this]
theorem mv_back (g : List UInt8) (by' : Int) (x : Entry) : mvE (fG g) (-by') (mvE (fG g) by' x) = x := by
  have h := fG_mv g by' x
  have e : mvE (fG g) (-by') (mvE (fG g) by' x) = if fG g (mvE (fG g) by' x) = true then ((mvE (fG g) by' x).1, (mvE (fG g) by' x).2.1 + -by', (mvE (fG g) by' x).2.2) else mvE (fG g) by' x := rfl
  rw [e, h]
  unfold mvE
  by_cases q : fG g x = true
  · rw [if_pos q, if_pos q]
    obtain ⟨a, b, c⟩ := x
    simp
    omega
  · rw [if_neg q, if_neg q]
theorem entE_mv {x : Entry} {f : Entry → Bool} {by' : Int} (h : entE x = 0) (hb : mvB f by' x = true) : entE (mvE f by' x) = 0 := by
  unfold mvE
  by_cases q : f x = true
  · rw [if_pos q]
    unfold mvB at hb
    rw [q] at hb
    simp only [Bool.not_true, Bool.false_or] at hb
    unfold entE at h ⊢
    simp only at h ⊢
    split at h
    · cases h
    rename_i h1
    rw [if_neg]
    · exact h
    · simp only [Bool.not_eq_true, Bool.not_eq_false'] at h1 ⊢
      simp only [Bool.and_eq_true, Bool.not_eq_eq_eq_not, Bool.not_not] at h1 ⊢
      simp_all
  · rw [if_neg q]
    exact h
theorem mv_ok {l : List Entry} {f : Entry → Bool} {by' : Int} (g : EntsOk l) (hb : l.all (mvB f by') = true) : EntsOk (insAll [] (l.map (mvE f by'))) := by
  obtain ⟨h1, h2⟩ := insAll_ok (l.map (mvE f by')) [] List.Pairwise.nil (by simpa using mv_ids g.ids)
  rw [List.nil_append] at h2
  refine ⟨by rw [h2.length_eq, List.length_map]; exact g.most, fun x hx => ?_, h1, ((h2.map (·.1)).nodup_iff).2 (mv_ids g.ids), ?_⟩
  · obtain ⟨y, hy, rfl⟩ := List.mem_map.1 (h2.mem_iff.1 hx)
    exact entE_mv (g.each y hy) (List.all_eq_true.1 hb y hy)
  · refine Nat.le_trans (grp_le (m := l) fun x hx => ?_) g.grp
    obtain ⟨y, hy, rfl⟩ := List.mem_map.1 (h2.mem_iff.1 hx)
    exact ⟨y, hy, by rw [mvE_rest]⟩
theorem sh_right {l a : List Entry} {g : List UInt8} {by' : Int} (h : shE l g by' = (a, 0)) : entsE a = 0 ∧ shE a g (-by') = (l, 0) ∧ (g = [] → a = l.map (mvE (fG g) by')) := by
  unfold shE at h
  split at h
  · rename_i q; simp only [Prod.mk.injEq] at h; exact absurd h.2 q
  rename_i q1
  split at h
  · simp at h
  rename_i q2
  split at h
  · simp at h
  rename_i q3
  unfold mvAll at h
  split at h
  rotate_left
  · simp at h
  rename_i q4
  simp only [Prod.mk.injEq, and_true] at h
  subst h
  have hok := ents_ok (l := l) (by simpa using q1)
  have hok2 := mv_ok hok q4
  have he := ents_mk hok2
  obtain ⟨h1, h2⟩ := insAll_ok (l.map (mvE (fG g) by')) [] List.Pairwise.nil (by simpa using mv_ids hok.ids)
  rw [List.nil_append] at h2
  refine ⟨he, ?_, fun hg => ?_⟩
  · unfold shE
    rw [if_neg (by rw [he]; simp), if_neg q2, if_neg (by simp [inB] at q3 ⊢; omega)]
    unfold mvAll
    rw [if_pos]
    · congr 1
      symm
      refine mv_sorted hok2.ids hok.srt ?_
      have := (h2.map (mvE (fG g) (-by'))).symm
      rw [List.map_map, show mvE (fG g) (-by') ∘ mvE (fG g) by' = id from funext fun x => mv_back g by' x, List.map_id] at this
      exact this
    · rw [List.all_eq_true]
      intro x hx
      obtain ⟨y, hy, rfl⟩ := List.mem_map.1 (h2.mem_iff.1 hx)
      unfold mvB
      rw [fG_mv]
      by_cases q : fG g y = true
      · have hr := hok.each y hy
        unfold entE at hr
        split at hr
        · cases hr
        rename_i h1
        unfold mvE
        rw [if_pos q]
        simp [inB] at h1 ⊢
        omega
      · have q' : fG g y = false := by simpa using q
        rw [q']
        rfl
  · subst hg
    symm
    refine mv_sorted hok.ids ?_ (List.Perm.refl _)
    have hf : ∀ x : Entry, fG [] x = true := fun x => rfl
    unfold Srt
    rw [List.pairwise_map]
    refine hok.srt.imp fun {a b} hab => ?_
    unfold mvE
    rw [if_pos (hf a), if_pos (hf b)]
    simp [befE] at hab ⊢
    omega
theorem sh_bad {l a : List Entry} {g : List UInt8} {by' f : Int} (h : shE l g by' = (a, f)) (hf : f ≠ 0) : a = [] := by
  unfold shE at h
  split at h
  · simp only [Prod.mk.injEq] at h; exact h.1.symm
  split at h
  · simp only [Prod.mk.injEq] at h; exact h.1.symm
  split at h
  · simp only [Prod.mk.injEq] at h; exact h.1.symm
  unfold mvAll at h
  split at h
  · simp only [Prod.mk.injEq] at h; exact absurd h.2.symm hf
  · simp only [Prod.mk.injEq] at h; exact h.1.symm
theorem sh_len (l : List Entry) (g : List UInt8) (by' : Int) : (shE l g by').1.length ≤ 1000 := by
  generalize hr : shE l g by' = r
  obtain ⟨a, f⟩ := r
  by_cases hf : f = 0
  · subst hf
    exact ents_le (sh_right hr).1
  · rw [sh_bad hr hf]
    simp
end Go.Proofs.P6
end
section
namespace Go.Proofs
open Go.Shelf
def Try.lays122_ren : Go.Shelf.Ren := ⟨fun | 122 => 135 | 215 => 166 | n => n, fun | 3 => 3 | 4 => 4 | n => n, fun | n => n⟩
theorem Try.lays122 : Go.Proofs.Lays.n122 Try.prog Try.lays122_ren := {
  mixed := by kernel_rfl
  f122 := Try.func135.trans (congrArg some (by kernel_rfl))
  f215 := Try.func166.trans (congrArg some (by kernel_rfl))
  t3 := Try.underlying3
  a3 := Try.isAgg3
  z3 := Try.sizeOf3
  v3 := Try.zeroValue3
  t4 := Try.underlying4
  a4 := Try.isAgg4
  z4 := Try.sizeOf4
  v4 := Try.zeroValue4 }
open Go.RowKit in
/-- cmp.Compare at int: "Compare returns -1 if x is less than y, 0 if x equals y, +1 if x is greater than y.": IT RETURNS 'Lib.compareInt x y'; the world is as it was. (LAID: no walk: one application.) -/
theorem Try.cmp_Compare_int (x y : Int) (w : World) :
    Calls Try.prog 135 #[.int .i64 x, .int .i64 y] w fun e w' => e = .returned (.int .i64 (Lib.compareInt x y)) ∧ w' = w := Any.cmp_Compare_int Try.lays122 x y w
def Try.sortEnt_ren : Go.Shelf.Ren := ⟨fun | 6 => 138 | 15 => 168 | 14 => 167 | 28 => 187 | 29 => 188 | 20 => 179 | 21 => 180 | 22 => 181 | 23 => 182 | 24 => 183 | 25 => 184 | 26 => 185 | 27 => 186 | 46 => 195 | 47 => 196 | 48 => 197 | 49 => 198 | 50 => 199 | 57 => 204 | n => n, fun | 22 => 44 | 24 => 46 | 25 => 144 | 3 => 3 | 39 => 219 | 0 => 0 | 53 => 237 | 55 => 239 | 4 => 4 | 46 => 231 | 45 => 230 | 50 => 198 | 5 => 5 | 9 => 9 | 66 => 248 | 70 => 252 | 76 => 263 | 77 => 254 | n => n, fun | n => n⟩
theorem Try.sortEnt : Go.Proofs.SlLaysF0.n6 Try.prog Try.sortEnt_ren := {
  mixed := by kernel_rfl
  f6 := ⟨Try.f138.name, by decide, Try.func138.trans (congrArg some (by kernel_rfl))⟩
  f14 := ⟨Try.f167.name, by decide, Try.func167.trans (congrArg some (by kernel_rfl))⟩
  f15 := Try.func168.trans (congrArg some (by kernel_rfl))
  f20 := ⟨Try.f179.name, by decide, Try.func179.trans (congrArg some (by kernel_rfl))⟩
  f21 := ⟨Try.f180.name, by decide, Try.func180.trans (congrArg some (by kernel_rfl))⟩
  f22 := ⟨Try.f181.name, by decide, Try.func181.trans (congrArg some (by kernel_rfl))⟩
  f23 := ⟨Try.f182.name, by decide, Try.func182.trans (congrArg some (by kernel_rfl))⟩
  f24 := ⟨Try.f183.name, by decide, Try.func183.trans (congrArg some (by kernel_rfl))⟩
  f25 := ⟨Try.f184.name, by decide, Try.func184.trans (congrArg some (by kernel_rfl))⟩
  f26 := ⟨Try.f185.name, by decide, Try.func185.trans (congrArg some (by kernel_rfl))⟩
  f27 := ⟨Try.f186.name, by decide, Try.func186.trans (congrArg some (by kernel_rfl))⟩
  f28 := Try.func187.trans (congrArg some (by kernel_rfl))
  f29 := Try.func188.trans (congrArg some (by kernel_rfl))
  f46 := ⟨Try.f195.name, by decide, Try.func195.trans (congrArg some (by kernel_rfl))⟩
  f47 := Try.func196.trans (congrArg some (by kernel_rfl))
  f48 := Try.func197.trans (congrArg some (by kernel_rfl))
  f49 := ⟨Try.f198.name, by decide, Try.func198.trans (congrArg some (by kernel_rfl))⟩
  f50 := ⟨Try.f199.name, by decide, Try.func199.trans (congrArg some (by kernel_rfl))⟩
  f57 := ⟨Try.f204.name, by decide, Try.func204.trans (congrArg some (by kernel_rfl))⟩
  t0 := Try.underlying0
  a0 := Try.isAgg0
  z0 := Try.sizeOf0
  v0 := Try.zeroValue0
  t3 := Try.underlying3
  a3 := Try.isAgg3
  z3 := Try.sizeOf3
  v3 := Try.zeroValue3
  t4 := Try.underlying4
  a4 := Try.isAgg4
  z4 := Try.sizeOf4
  v4 := Try.zeroValue4
  t5 := Try.underlying5
  a5 := Try.isAgg5
  z5 := Try.sizeOf5
  v5 := Try.zeroValue5
  t9 := Try.underlying9
  a9 := Try.isAgg9
  z9 := Try.sizeOf9
  v9 := Try.zeroValue9
  t22 := Try.underlying44
  a22 := Try.isAgg44
  z22 := Try.sizeOf44
  v22 := Try.zeroValue44
  t25 := Try.underlying144
  a25 := Try.isAgg144
  z25 := Try.sizeOf144
  v25 := Try.zeroValue144
  t39 := Try.underlying219
  a39 := Try.isAgg219
  z39 := Try.sizeOf219
  v39 := Try.zeroValue219
  t45 := Try.underlying230
  a45 := Try.isAgg230
  z45 := Try.sizeOf230
  v45 := Try.zeroValue230
  t46 := Try.underlying231
  a46 := Try.isAgg231
  z46 := Try.sizeOf231
  v46 := Try.zeroValue231
  t50 := Try.underlying198
  a50 := Try.isAgg198
  z50 := Try.sizeOf198
  v50 := Try.zeroValue198
  t53 := Try.underlying237
  a53 := Try.isAgg237
  z53 := Try.sizeOf237
  v53 := Try.zeroValue237
  t55 := Try.underlying239
  a55 := Try.isAgg239
  z55 := Try.sizeOf239
  v55 := Try.zeroValue239
  t66 := Try.underlying248
  a66 := Try.isAgg248
  z66 := Try.sizeOf248
  v66 := Try.zeroValue248
  t70 := Try.underlying252
  a70 := Try.isAgg252
  z70 := Try.sizeOf252
  v70 := Try.zeroValue252
  t76 := Try.underlying263
  a76 := Try.isAgg263
  z76 := Try.sizeOf263
  v76 := Try.zeroValue263
  t77 := Try.underlying254
  a77 := Try.isAgg254
  z77 := Try.sizeOf254
  v77 := Try.zeroValue254 }
end Go.Proofs
end
section
set_option linter.unusedVariables false
set_option linter.unusedSimpArgs false
set_option maxRecDepth 10000
set_option maxHeartbeats 4000000
namespace Go.Proofs.P6
open Go.Lib Go.RowKit Go.Ex Go.Sort
/-- An entry's cells. -/
def encE (x : Entry) : List Value := [.int .i64 x.1, .int .i64 x.2.1, .string ⟨x.2.2.1.toArray⟩, .string ⟨x.2.2.2.1.toArray⟩, .string ⟨x.2.2.2.2.1.toArray⟩, .bool x.2.2.2.2.2]
/-- What byTime answers in the model itself. -/
def ByTimeRuns : Prop := ∀ (x y : Entry) (W : World), Calls Try.prog 80 #[.agg (encE x).toArray, .agg (encE y).toArray] W fun e w' => e = .returned (.int .i64 (byT x y)) ∧ ∃ q os', w' = grow (W.drewN q) os'
theorem more_rel {P : Program} {w0 w w' : World} {φ : Nat → Nat × Nat} {S : Nat → Prop} {h : Hp} (hR : Rel P w0 φ S h w) (hb : Below w.heap.size w w') : Rel P w0 φ S h w' ∧ Ext φ h S w φ h S w' := by
  have hext : Ext φ h S w φ h S w' := ⟨fun _ x => x, fun r hr => hb.block r (hR.sin r hr), fun id b hib => ⟨b, hib, Nat.le_refl _, fun _ => ⟨rfl, rfl, by simp only [szOf, hb.block _ (hR.lt hib)]⟩⟩⟩
  exact ⟨⟨hR.below.trans (hb.mono hR.base), hR.gl, fun r hr => Nat.lt_of_lt_of_le (hR.sin r hr) hb.size, fun id b hib => (hR.blk _ _ hib).keep hext rfl (hR.blk _ _ hib).out hb.size (hb.block _ (hR.lt hib)), hR.inj⟩, hext⟩
theorem rep_enc {φ : Nat → Nat × Nat} {h : Hp} {S : Nat → Prop} {w : World} (x : Entry) (r : Nat) (c : V) (v : Value) (hc : (entV x)[r]? = some c) (hv : (encE x)[r]? = some v) : Rep φ h S w c v ∧ v.oneCell' = true := by
  have hs : ∀ s : List UInt8, Rep φ h S w (.str s) (.string ⟨s.toArray⟩) := fun s => by
    have := Rep.str (φ := φ) (h := h) (S := S) (w := w) ⟨s.toArray⟩
    simpa using this
  match r with
  | 0 => simp [entV, encE] at hc hv; subst hc hv; exact ⟨.int _ _, rfl⟩
  | 1 => simp [entV, encE] at hc hv; subst hc hv; exact ⟨.int _ _, rfl⟩
  | 2 => simp [entV, encE] at hc hv; subst hc hv; exact ⟨hs _, rfl⟩
  | 3 => simp [entV, encE] at hc hv; subst hc hv; exact ⟨hs _, rfl⟩
  | 4 => simp [entV, encE] at hc hv; subst hc hv; exact ⟨hs _, rfl⟩
  | 5 => simp [entV, encE] at hc hv; subst hc hv; exact ⟨.bool _, rfl⟩
  | r + 6 => simp [entV] at hc
theorem enc_rep {φ : Nat → Nat × Nat} {h : Hp} {S : Nat → Prop} {w : World} (x : Entry) (r : Nat) (c : V) (v : Value) (hc : (entV x)[r]? = some c) (hv : Rep φ h S w c v) : (encE x)[r]? = some v := by
  have hs : ∀ (s : List UInt8) v, Rep φ h S w (.str s) v → v = .string ⟨s.toArray⟩ := fun s v r => by
    generalize hq : V.str s = u at r
    cases r <;> try cases hq
    rfl
  match r with
  | 0 => simp [entV] at hc; subst hc; cases hv; rfl
  | 1 => simp [entV] at hc; subst hc; cases hv; rfl
  | 2 => simp [entV] at hc; subst hc; rw [hs _ _ hv]; rfl
  | 3 => simp [entV] at hc; subst hc; rw [hs _ _ hv]; rfl
  | 4 => simp [entV] at hc; subst hc; rw [hs _ _ hv]; rfl
  | 5 => simp [entV] at hc; subst hc; cases hv; rfl
  | r + 6 => simp [entV] at hc
theorem fl_at (l : List Entry) (j : Nat) (hj : j < l.length * 6) : ∃ x, l[j / 6]? = some x ∧ (fl entCd l)[j]? = (entV x)[j % 6]? := by
  have hlt : j / 6 < l.length := by omega
  have hg : l[j / 6]? = some l[j / 6] := List.getElem?_eq_getElem hlt
  refine ⟨l[j / 6], hg, ?_⟩
  have := fl_take (d := entCd) (n := 6) rfl hg
  rw [← ent_cells, ← this, List.getElem?_take, if_pos (Nat.mod_lt _ (by decide)), List.getElem?_drop]
  congr 1
  omega
theorem flatK_at (d : Array Entry) (j : Nat) (hj : j < d.size * 6) : ∃ x, d.toList[j / 6]? = some x ∧ (flatK encE 6 d)[j]? = (encE x)[j % 6]? := by
  have hlt : j / 6 < d.size := by omega
  refine ⟨d[j / 6], by simp [hlt], ?_⟩
  have hr : j % 6 < 6 := Nat.mod_lt _ (by decide)
  unfold flatK
  rw [Array.getElem?_map, Array.getElem?_range, if_pos hj]
  simp only [Option.map_some]
  rw [getElem!_pos d (j / 6) hlt]
  have hl : (encE d[j / 6]).length = 6 := rfl
  rw [List.getElem?_eq_getElem (by omega), getElem!_pos _ _ (by omega)]
theorem swo : SWO (ltOf byT) where
  irrefl x := by unfold ltOf; rw [byT_lt]; exact befE_irr x
  trans x y z h1 h2 := by unfold ltOf at *; rw [byT_lt] at *; exact befE_trans h1 h2
  ntrans x y z h1 h2 := by unfold ltOf at *; rw [byT_lt] at *; simp [befE] at *; omega
theorem reps2' {φ : Nat → Nat × Nat} {h : Hp} {S : Nat → Prop} {w : World} {a b : V} {vs : Array Value} (hv : Reps φ h S w [a, b] vs) : ∃ x y, vs = #[x, y] ∧ Rep φ h S w a x ∧ Rep φ h S w b y := by
  obtain ⟨h1, h2⟩ := hv
  obtain ⟨x, y, rfl⟩ : ∃ x y, vs = #[x, y] := by
    obtain ⟨l⟩ := vs
    match l, h1 with
    | [x, y], _ => exact ⟨x, y, rfl⟩
  exact ⟨x, y, rfl, h2 0 _ x rfl rfl, h2 1 _ y rfl rfl⟩
theorem fn_val {φ : Nat → Nat × Nat} {h : Hp} {S : Nat → Prop} {w : World} {f : Nat} {y : Value} (hr : Rep φ h S w (.fn f []) y) : y = .func (.func f) #[] #[] := by
  cases hr
  rename_i vs h1 h2
  have : vs = #[] := Array.eq_empty_of_size_eq_zero (by simpa using h1)
  rw [this]
/-- What the sort makes of them. -/
def srtE (l : List Entry) : List Entry := (pdq (ltOf byT) l.toArray 0 l.toArray.size (Lib.bitLen l.toArray.size) true true).toList
theorem srtE_ok (l : List Entry) : (srtE l).Perm l ∧ (srtE l).Pairwise fun a b => befE b a = false := by
  have h := pdq_sorts (ltOf byT) swo l.toArray 0 l.toArray.size (Lib.bitLen l.toArray.size) true true (Nat.zero_le _) (Nat.le_refl _) (Or.inl rfl)
  obtain ⟨⟨h1, -, h2⟩, h3⟩ := h
  unfold srtE
  generalize pdq (ltOf byT) l.toArray 0 l.toArray.size (Lib.bitLen l.toArray.size) true true = d at *
  refine ⟨?_, ?_⟩
  · rw [← h1] at h2
    rw [Array.extract_eq_self_of_le (by omega)] at h2
    have : l.toArray.extract 0 d.size = l.toArray := Array.extract_eq_self_of_le (by omega)
    rw [this] at h2
    simpa using h2
  · rw [List.pairwise_iff_getElem]
    intro i j hi hj hij
    have := h3 i j (Nat.zero_le _) hij (by simp at hj; omega)
    unfold ltOf at this
    rw [byT_lt] at this
    simp at hi hj
    rw [getElem!_pos d j hj, getElem!_pos d i hi] at this
    simpa using this
theorem sort_ok (hB : ByTimeRuns) (l : List Entry) (h0 : 0 < l.length) (hl : l.length ≤ 5000) {h : Hp} {nx id ver : Nat} (hb : h id = some ⟨ver, 6, fl entCd l, none⟩) (hlt : id < nx) :
    SOk Try.prog 138 [.sl id ver 0 l.length none, .fn 80 []] h nx (.tup []) (upd h id (some ⟨ver, 6, fl entCd (srtE l), none⟩)) nx := by
  intro w0 w φ S vs hf hR hvs
  obtain ⟨a, b, rfl, ha, hfn⟩ := reps2' hvs
  obtain ⟨c, oo, arr, el, fz, rfl, p2, p4, z1, p3, z2, z3, z4⟩ := own_row hR hb ha
  have e1 := p2 (by omega)
  subst e1
  have := fn_val hfn
  subst this
  have hfl : (fl entCd l).length = l.length * 6 := flat_len l
  rw [hfl] at z2
  have hblk : (φ id).1 < w.heap.size := hR.lt hb
  have hH : HoldsK encE 6 w (φ id).1 (φ id).2 l.toArray := by
    intro j hj
    rw [size_flatK] at hj
    simp only [List.size_toArray] at hj
    refine ⟨?_, frozen_no z1 z3⟩
    obtain ⟨x, hx, hfx⟩ := fl_at l j hj
    obtain ⟨y, hy, hfy⟩ := flatK_at l.toArray j (by simpa using hj)
    simp only at hy
    rw [hx] at hy
    injection hy with hy
    subst hy
    have hlen : (entV x).length = 6 := rfl
    have hc : (entV x)[j % 6]? = some ((entV x)[j % 6]'(by rw [hlen]; exact Nat.mod_lt _ (by decide))) := List.getElem?_eq_getElem _
    have hv : arr[(φ id).2 + j]? = some (arr[(φ id).2 + j]'(by omega)) := Array.getElem?_eq_getElem _
    rw [cell_at z1, hv]
    have := enc_rep x (j % 6) _ _ hc (z4 j _ _ (hfx.trans hc) hv).1
    rw [← hfy] at this
    show _ = some ((flatK encE 6 l.toArray)[j]!)
    rw [getElem!_def, this]
  have eg : ∀ args w, (callFunc 80 args).run Try.prog w = .ok (.enter 80 args) w := enters_of Try.func80 (by kernel_rfl) rfl
  have hs := AnyQ.slices_SortFunc_eq Try.sortEnt 6 Try.isAgg46 Try.sizeOf46 encE (fun _ => rfl) (fun x v hv => by simp [encE] at hv; rcases hv with rfl | rfl | rfl | rfl | rfl | rfl <;> rfl) byT swo 80 #[] (φ id).1 (φ id).2 c l.toArray w eg (fun m os dk _ x y => hB x y _) hH hblk (by simp; omega)
  change Calls Try.prog 138 _ _ _ at hs
  simp only [List.size_toArray] at hs
  refine hs.mono fun e w' he => ?_
  obtain ⟨rfl, n, os, rfl⟩ := he
  have hsd : srtE l = (pdq (ltOf byT) l.toArray 0 l.length (Lib.bitLen l.length) true true).toList := by unfold srtE; simp only [List.size_toArray]
  obtain ⟨hp, -⟩ := srtE_ok l
  have hsl : (srtE l).length = l.length := hp.length_eq
  rw [hsd] at hsl ⊢
  generalize pdq (ltOf byT) l.toArray 0 l.length (Lib.bitLen l.length) true true = d at *
  have hds : d.size = l.length := by simpa using hsl
  obtain ⟨F, hF⟩ : ∃ F, F = flatK encE 6 d := ⟨_, rfl⟩
  have hFs : F.size = l.length * 6 := by rw [hF, size_flatK, hds]
  have hW : sortWorldK encE 6 w (φ id).1 (φ id).2 n d os = grow ((w.drewN n).setCells (φ id).1 (φ id).2 F.toList) os := by
    unfold sortWorldK putRowK
    congr 1
    have := Lib.putRow_eq_setCells (_root_.id : Value → Value) w (φ id).1 (φ id).2 (flatK encE 6 l.toArray) (flatK encE 6 d).toList n hH (by rw [Array.length_toList, size_flatK, size_flatK, hds]; simp)
    rw [hF]
    simpa using this
  rw [hW]
  have hA := setCells_self F.toList (w.drewN n) (φ id).1 (φ id).2 arr el fz z1
  obtain ⟨s1, s2, s3, s4⟩ := setCells_same F.toList (w.drewN n) (φ id).1 (φ id).2
  have g1 := fun k => putArr_get F.toList arr (φ id).2 k (by simp; omega)
  have hlen : (fl entCd d.toList).length = l.length * 6 := by
    rw [show (fl entCd d.toList).length = d.toList.length * 6 from flat_len _]
    simp [hds]
  obtain ⟨k1, k2⟩ := hR.write (w' := (w.drewN n).setCells (φ id).1 (φ id).2 F.toList) (b' := ⟨ver, 6, fl entCd d.toList, none⟩) hb (by simp) (fun _ => rfl) rfl (fun k hk => setCells_else _ _ _ _ _ hk) s2 s3 s4 s1 z1 hA (putArr_size _ _ _) (.inl z3) (by simp only [hlen]; omega)
    (fun j c' v hc hv => by
      have hjl := (List.getElem?_eq_some_iff.1 hc).1
      simp only [hlen] at hjl
      rw [g1, if_pos (by simp; omega)] at hv
      obtain ⟨x, hx, hfx⟩ := fl_at d.toList j (by simp [hds]; exact hjl)
      obtain ⟨y, hy, hfy⟩ := flatK_at d j (by rw [hds]; exact hjl)
      rw [hx] at hy
      injection hy with hy
      subst hy
      rw [show (φ id).2 + j - (φ id).2 = j by omega, Array.getElem?_toList, hF, hfy] at hv
      rw [hfx] at hc
      exact rep_enc x (j % 6) c' v hc hv)
  obtain ⟨k3, k4⟩ := more_rel (w' := grow ((w.drewN n).setCells (φ id).1 (φ id).2 F.toList) os) k1 ⟨rfl, rfl, rfl, by simp [grow], fun k hk => by simp only [grow]; rw [Array.getElem?_append_left hk]⟩
  refine ⟨_, φ, S, rfl, k3, k2.trans k4, fun _ h _ => h, fun j hj => ?_, .tup [] #[] rfl (fun i c v hc => by simp at hc)⟩
  simp only [upd]
  rw [if_neg (by omega)]
  exact hf j hj
/-- Nothing to be sorted. -/
theorem sort_em {h : Hp} {nx : Nat} : SOk Try.prog 138 [.em, .fn 80 []] h nx (.tup []) h nx := by
  intro w0 w φ S vs hf hR hvs
  obtain ⟨a, b, rfl, ha, hfn⟩ := reps2' hvs
  obtain ⟨base, rfl⟩ := em_val ha
  have hs := AnyF.slices_SortFunc_none Try.sortEnt base 0 b w
  change Calls Try.prog 138 _ _ _ at hs
  refine hs.mono fun e w' he => ?_
  obtain ⟨rfl, rfl⟩ := he
  exact ⟨_, φ, S, rfl, hR, .refl, fun _ h _ => h, hf, .tup [] #[] rfl (fun i c v hc => by simp at hc)⟩
end Go.Proofs.P6
end
section
set_option linter.unusedVariables false
set_option linter.unusedSimpArgs false
namespace Go.Proofs.P6
open Go.Lib Go.RowKit Go.Ex Go.Sort
set_option maxHeartbeats 4000000 in
set_option maxRecDepth 100000 in
theorem or2_walk (b c : Nat) (p q : Int) (W : World) (h0 : W.cell? ⟨b, 0, none⟩ = some (.int .i64 p)) (h1 : W.cell? ⟨b, 1, none⟩ = some (.int .i64 q)) :
    Calls Try.prog 134 #[.slice (some ⟨b, 0, none⟩) 2 c] W fun e w' => e = .returned (.int .i64 (if p ≠ 0 then p else q)) ∧ w' = W := by
  have mixed := hm
  have t0 := Try.underlying0; have a0 := Try.isAgg0; have z0 := Try.sizeOf0; have v0 := Try.zeroValue0; have u0 := run_underlying Try.underlying0
  have t3 := Try.underlying3; have a3 := Try.isAgg3; have z3 := Try.sizeOf3; have v3 := Try.zeroValue3; have u3 := run_underlying Try.underlying3
  have t4 := Try.underlying4; have a4 := Try.isAgg4; have z4 := Try.sizeOf4; have v4 := Try.zeroValue4; have u4 := run_underlying Try.underlying4
  have t22 := Try.underlying69; have a22 := Try.isAgg69; have z22 := Try.sizeOf69; have v22 := Try.zeroValue69; have u22 := run_underlying Try.underlying69
  have nt : Try.f134.ntmps = 18 := rfl
  by_cases hp : p = 0
  · subst hp
    by_cases hq : q = 0
    · subst hq
      go_enter Try.func134, nt
      go_wp2
      refine wp_loop_rounds 3 ?_
      rw [rounds_succ]
      go_wp2
      rw [rounds_succ]
      go_wp2
      rw [rounds_succ]
      go_wp2
      go_ret
      exact ⟨by simp, rfl⟩
    · have hq' : (q != 0) = true := by simp [hq]
      go_enter Try.func134, nt
      go_wp2
      refine wp_loop_rounds 3 ?_
      rw [rounds_succ]
      go_wp2
      rw [rounds_succ]
      go_wp2
      go_ret
      exact ⟨by simp, rfl⟩
  · have hp' : (p != 0) = true := by simp [hp]
    go_enter Try.func134, nt
    go_wp2
    refine wp_loop_rounds 3 ?_
    rw [rounds_succ]
    go_wp2
    go_ret
    exact ⟨by simp [hp], rfl⟩
theorem cmpI_lib (x y : Int) : Lib.compareInt x y = cmpI x y := by
  unfold Lib.compareInt cmpI
  rfl
set_option maxHeartbeats 4000000 in
set_option maxRecDepth 100000 in
theorem byTime_runs : ByTimeRuns := by
  intro x y W
  have mixed := hm
  have t3 := Try.underlying3; have a3 := Try.isAgg3; have z3 := Try.sizeOf3; have v3 := Try.zeroValue3; have u3 := run_underlying Try.underlying3
  have t22 := Try.underlying69; have a22 := Try.isAgg69; have z22 := Try.sizeOf69; have v22 := Try.zeroValue69; have u22 := run_underlying Try.underlying69
  have t46 := Try.underlying46; have a46 := Try.isAgg46; have z46 := Try.sizeOf46; have v46 := Try.zeroValue46; have u46 := run_underlying Try.underlying46
  have nt : Try.f80.ntmps = 17 := rfl
  have h1 := fun W' => Try.cmp_Compare_int x.2.1 y.2.1 W'
  have h2 := fun W' => Try.cmp_Compare_int x.1 y.1 W'
  simp only [cmpI_lib] at h1 h2
  obtain ⟨x1, x2, x3, x4, x5, x6⟩ := x
  obtain ⟨y1, y2, y3, y4, y5, y6⟩ := y
  simp only at h1 h2
  have hb : byT (x1, x2, x3, x4, x5, x6) (y1, y2, y3, y4, y5, y6) = if cmpI x2 y2 ≠ 0 then cmpI x2 y2 else cmpI x1 y1 := rfl
  rw [hb]
  generalize cmpI x2 y2 = r1 at *
  generalize cmpI x1 y1 = r2 at *
  have fin : ∀ o1 o2 o3 : Obj, ∃ q os', (((W.alloc o1).alloc o2).alloc o3).drew = grow (W.drewN q) os' := fun o1 o2 o3 => ⟨1, #[o1] ++ #[o2] ++ #[o3], by rw [alloc_eq_grow, alloc_eq_grow, alloc_eq_grow, grow_grow, grow_grow]; rfl⟩
  have fin2 : ∀ o1 o2 o3 : Obj, ∃ q os', (((W.alloc o1).alloc o2).drew.alloc o3) = grow (W.drewN q) os' := fun o1 o2 o3 => ⟨1, #[o1] ++ #[o2] ++ #[o3], by rw [alloc_eq_grow, alloc_eq_grow, alloc_eq_grow]; rfl⟩
  have h3 := fun b c W' h0 h1 => or2_walk b c r1 r2 W' h0 h1
  generalize (if r1 ≠ 0 then r1 else r2) = r3 at *
  clear hb
  unfold encE
  simp only
  go_enter Try.func80, nt
  go_wp2
  go_region_with (first
    | (go_at_call_of 135 (Value.int IntKind.i64 x2); refine (h1 _).mono ?_; rintro e w' ⟨rfl, rfl⟩)
    | (go_at_call_of 135 (Value.int IntKind.i64 x1); refine (h2 _).mono ?_; rintro e w' ⟨rfl, rfl⟩)
    | (go_at_call 134; refine (h3 _ _ _ (by go_simp) (by go_simp)).mono ?_; rintro e w' ⟨rfl, rfl⟩))
  all_goals (try go_wp2)
  all_goals (go_ret; first | exact ⟨rfl, fin _ _ _⟩ | exact ⟨rfl, fin2 _ _ _⟩)
end Go.Proofs.P6
end
section
set_option linter.unusedVariables false
set_option linter.unusedSimpArgs false
set_option maxRecDepth 10000
set_option maxHeartbeats 8000000
namespace Go.Proofs.P6
open Go.Ex
abbrev rE (l : List Entry) : V := .ro l.length (fl entCd l)
theorem inG_ok (g : List UInt8) (x : Entry) {h : Hp} {nx b : Nat} (hb : b < nx) (hh : h b = some ⟨0, 0, [.str g], none⟩) : SEx Try.prog 139 [.agg (entCd.cells x), .pt b 0 0] h nx (Quiet (.bool (fG g x)) h nx) := by
  have hne : b ≠ nx := by omega
  have e : entCd.cells x = entV x := rfl
  rw [e]
  refine SEx.of hm h139 (of_decide_eq_true rfl) ?_
  unfold c139
  have hg3 : ∀ hh, (entV x)[3]'hh = .str x.2.2.2.1 := fun _ => rfl
  have hq : ∀ (b : Bool), fG g x = b → ∀ h' : Hp, (∀ j, j < nx → h' j = h j) → Quiet (.bool (fG g x)) h nx (.bool b) h' (nx + 1) := fun b e h' hj => ⟨by rw [e], Nat.le_succ _, hj⟩
  have sl : (entV x).length = 6 := rfl
  by_cases q : g = []
  · subst q
    simp -dsimp [hne, hh, sl]
    refine hq true (by simp [fG]) _ fun j hj => ?_
    have : j ≠ nx := by omega
    simp [upd, this]
  · simp -dsimp [hne, hh, q, sl, hg3]
    refine hq _ (by simp [fG, q]) _ fun j hj => ?_
    have : j ≠ nx := by omega
    simp [upd, this]
theorem in_ok (g : List UInt8) {h : Hp} {nx : Nat} : SEx Try.prog 93 [.str g] h nx (fun v h' nx' => v = .fn 139 [.pt nx 0 0] ∧ h' = upd h nx (some ⟨0, 0, [.str g], none⟩) ∧ nx' = nx + 1) := by
  refine SEx.of hm h93 (of_decide_eq_true rfl) ?_
  unfold c93
  simp -dsimp
abbrev rowE (ver : Nat) (l : List Entry) : Option LB := some ⟨ver, 6, fl entCd l, none⟩
theorem fl6 (x : Entry) (r : List Entry) : fl entCd (x :: r) = .int .i64 x.1 :: .int .i64 x.2.1 :: .str x.2.2.1 :: .str x.2.2.2.1 :: .str x.2.2.2.2.1 :: .bool x.2.2.2.2.2 :: fl entCd r := rfl
theorem ent_roFree : ∀ (l : List Entry), roFreeL (fl entCd l) = true
  | [] => rfl
  | x :: l => by
    rw [fl6]
    simp [roFreeL, roFree, ent_roFree l]
theorem fl_putAt (n : Int) : ∀ (l : List Entry) (k : Nat) (x : Entry), l[k]? = some x → putL (fl entCd l) (k * 6 + 1) [.int .i64 n] = fl entCd (l.set k (x.1, n, x.2.2))
  | [], k, x, h => by simp at h
  | y :: l, 0, x, h => by
    simp at h
    subst h
    simp [fl6, putL]
  | y :: l, k + 1, x, h => by
    have ih := fl_putAt n l k x (by simpa using h)
    rw [List.set_cons_succ, fl6, fl6, ← ih, show (k + 1) * 6 + 1 = k * 6 + 1 + 1 + 1 + 1 + 1 + 1 + 1 by omega]
    simp only [putL, List.set_cons_succ]
section
variable {h : Hp} {id ver k : Nat} {kk : IntKind} {l : List Entry} {a : Entry}
theorem e_ia {n : Nat} {cap : Option Nat} {K : V → List Nat → Prop} (hb : h id = rowE ver l) (hn : l.length = n) (e : l[k]? = some a) : iaddrK h (.sl id ver 0 n cap) (.int kk k) 6 K ⟨⟩ = K (.pt id ver (k * 6)) [id] := by
  have hk := (List.getElem?_eq_some_iff.1 e).1
  subst hn
  rw [iaddr_sl hb rfl hk, Nat.zero_add]
theorem e_ld (hb : h id = rowE ver l) (e : l[k]? = some a) : ldA h (.pt id ver (k * 6)) (some 6) = some (.agg (entV a)) := by
  rw [ld_pts hb, ← ld_rps (h := h), ent_ld e]
theorem e_l1 (hb : h id = rowE ver l) (e : l[k]? = some a) : ldA h (.pt id ver (k * 6 + 1)) none = some (.int .i64 a.2.1) := by
  rw [ld_pt hb, ← ld_rp (h := h), ent_l1 e]
theorem e_st1 {K : Nat → Hp → Prop} {n : Int} (hb : h id = rowE ver l) (e : l[k]? = some a) : stK h (.pt id ver (k * 6 + 1)) (.int .i64 n) 1 K ⟨⟩ = K id (upd h id (rowE ver (l.set k (a.1, n, a.2.2)))) := by
  have hp := fl_putAt n l k a e
  have hk := (List.getElem?_eq_some_iff.1 e).1
  show _ = K id (upd h id (some ⟨ver, 6, fl entCd (l.set k (a.1, n, a.2.2)), none⟩))
  rw [← hp, st_pt, hb, blkK_some]
  unfold guardK
  refine propext ⟨fun q => q.2, fun q => ⟨⟨rfl, rfl, rfl, ?_, rfl⟩, q⟩⟩
  show k * 6 + 1 + 1 ≤ (fl entCd l).length
  rw [show (fl entCd l).length = l.length * 6 from flat_len l]
  omega
end
/-- A row whose first k have been moved. -/
def mvTo (f : Entry → Bool) (by' : Int) (l : List Entry) (k : Nat) : List Entry := (l.take k).map (mvE f by') ++ l.drop k
theorem mvTo_len (f : Entry → Bool) (by' : Int) (l : List Entry) (k : Nat) : (mvTo f by' l k).length = l.length := by
  simp [mvTo]
  omega
theorem mvTo_at {f : Entry → Bool} {by' : Int} {l : List Entry} {k : Nat} {x : Entry} (h : l[k]? = some x) : (mvTo f by' l k)[k]? = some x := by
  have hk := (List.getElem?_eq_some_iff.1 h).1
  have : ((l.take k).map (mvE f by')).length = k := by simp; omega
  unfold mvTo
  rw [List.getElem?_append_right (by omega), this, List.getElem?_drop, Nat.sub_self, Nat.add_zero, h]
theorem mvTo_succ {f : Entry → Bool} {by' : Int} {l : List Entry} {k : Nat} {x : Entry} (h : l[k]? = some x) : mvTo f by' l (k + 1) = (mvTo f by' l k).set k (mvE f by' x) := by
  have hk := (List.getElem?_eq_some_iff.1 h).1
  have he := (List.getElem?_eq_some_iff.1 h).2
  have hl : ((l.take k).map (mvE f by')).length = k := by simp; omega
  unfold mvTo
  rw [List.take_succ_eq_append_getElem hk, List.map_append, he, List.drop_eq_getElem_cons hk, he, List.set_append_right _ _ (by omega), hl, Nat.sub_self, List.set_cons_zero, List.append_assoc]
  rfl
theorem set_same {α : Type} {l : List α} {k : Nat} {x : α} (h : l[k]? = some x) : l.set k x = l := by
  obtain ⟨hk, he⟩ := List.getElem?_eq_some_iff.1 h
  rw [← he]
  exact List.set_getElem_self hk
structure SHI (f : Entry → Bool) (by' : Int) (l : List Entry) (h : Hp) (nx b F : Nat) (k : Nat) (t : St) : Prop where
  i13 : t.t 13 = .sl nx 0 0 l.length none
  i8 : t.t 8 = .sl nx 0 0 l.length none
  i1 : t.t 1 = .int .i64 by'
  i2 : t.t 2 = .fn F [.pt b 0 0]
  ih : t.h nx = rowE 0 (mvTo f by' l k)
  inx : nx < t.nx
  fr : ∀ j, j < nx → t.h j = h j
  iu : Upto (mvB f by') l k
/-- What comes of a shift. -/
def ShQ (f : Entry → Bool) (by' : Int) (l : List Entry) : V → Hp → Nat → Prop := fun v h' nx' =>
  (l.all (mvB f by') = true ∧ ∃ u, v = .tup [u, .int .i64 0] ∧ ((l = [] ∧ u = .em) ∨ (l ≠ [] ∧ Acc entCd h' nx' u (srtE (l.map (mvE f by')))))) ∨ (l.all (mvB f by') = false ∧ v = .tup [.ns, .int .i64 1])
/-- The same, and what stood there stands; the row is new. -/
def ShF (f : Entry → Bool) (by' : Int) (l : List Entry) (h : Hp) (nx : Nat) : V → Hp → Nat → Prop := fun v h' nx' =>
  ShQ f by' l v h' nx' ∧ nx ≤ nx' ∧ (∀ j, j < nx → h' j = h j) ∧ ∀ u n, v = .tup [u, n] → ∀ j, ownOf u = some j → nx ≤ j
theorem shift_fr (hB : ByTimeRuns) {f : Entry → Bool} {by' : Int} {l : List Entry} {F b nx : Nat} {h : Hp} {B : LB} {lv : V} (hlv : toRO h 8 lv = some (rE l)) (hF : hasBody Try.prog F = true) (hl : l.length ≤ 1000) (hat : ∀ x ∈ l, 0 ≤ x.2.1 ∧ x.2.1 ≤ 1000000000000) (hby : -1000000000 ≤ by' ∧ by' ≤ 1000000000)
    (hb : b < nx) (hh : h b = some B) (hcl : ∀ (x : Entry) (h' : Hp) (nx' : Nat), b < nx' → h' b = some B → SEx Try.prog F ([.agg (entCd.cells x)] ++ [.pt b 0 0]) h' nx' (Quiet (.bool (f x)) h' nx')) :
    SEx Try.prog 92 [lv, .int .i64 by', .fn F [.pt b 0 0]] h nx (ShF f by' l h nx) := by
  have e62 := Go.Ex.e62
  refine SEx.of hm h92 (of_decide_eq_true rfl) ?_
  unfold c92
  by_cases hne : l = []
  · subst hne
    have hce : OkF Try.prog 132 [.ro ([] : List Entry).length (fl entCd [])] (.em, []) := clone_empty hm h132
    simp -dsimp [hlv]
    refine call_own hce (by simp [okRes, roFree]) ?_
    simp -dsimp [shift, addB]
    refine for_lt 0 (fun k t => t.t 8 = .em ∧ nx ≤ t.nx ∧ ∀ j, j < nx → t.h j = h j) rfl (by omega) (by simp -dsimp) (by simp -dsimp) (by simp -dsimp) (fun k t hk hI hi hn => by omega) (fun t hI hi hn => ?_)
    obtain ⟨hI, hx, hf⟩ := hI
    simp -dsimp [hI]
    refine shr_ex (Q := fun v h2 nx2 => v = _ ∧ h2 = _ ∧ nx2 = _) ⟨_, _, _, ⟨rfl, rfl, rfl⟩, sort_em⟩ ?_
    rintro v h2 nx2 ⟨rfl, rfl, rfl⟩
    simp -dsimp [hI]
    exact ⟨.inl ⟨rfl, _, rfl, .inl ⟨rfl, rfl⟩⟩, hx, hf, fun u n q j hj => by injection q with q; injection q with q; subst q; cases hj⟩
  · simp -dsimp [hlv]
    refine call_own (entClone l (by omega) hne) (by simp [okRes, roFree, ent_roFree]) ?_
    simp -dsimp [shift, addB]
    refine for_lt l.length (SHI f by' l h nx b F) rfl (by omega) ⟨by simp -dsimp, by simp -dsimp, by simp -dsimp, by simp -dsimp, by simp -dsimp [mvTo], by simp -dsimp, fun j hj => by simp -dsimp; omega, Upto.zero _ _⟩ (by simp -dsimp) (by simp -dsimp) (fun k t hk hI hi hn => ?_) (fun t hI hi hn => ?_)
    · obtain ⟨i13, i8, i1, i2, ih, inx, fr, iu⟩ := hI
      have hg : l[k]? = some l[k] := List.getElem?_eq_getElem hk
      have hax := hat l[k] (List.getElem_mem hk)
      generalize l[k] = x at *
      have hgm := mvTo_at (f := f) (by' := by') hg
      have hsu := mvTo_succ (f := f) (by' := by') hg
      have hml := mvTo_len f by' l k
      generalize mvTo f by' l k = M at *
      have sl : (entV x).length = 6 := rfl
      have tk6 : List.take 6 (entV x) = entV x := rfl
      have hput : putL [V.int IntKind.i64 0, V.int IntKind.i64 0, V.str [], V.str [], V.str [], V.bool false] 0 (entV x) = entV x := rfl
      have nnx : ¬ nx = t.nx := by omega
      unfold k92_0
      simp -dsimp [i13, i8, i1, i2, hi, e_ia ih hml hgm, e_ld ih hgm, sl, tk6, hput]
      refine calv_ex hF (hcl x _ _ (by omega) ?_) ?_
      · have : ¬ b = t.nx := by omega
        simp [upd, this, fr b (by omega), hh]
      rintro v h' nx' ⟨rfl, q3, q4⟩
      have ih' : h' nx = rowE 0 M := by rw [q4 nx (by omega)]; simp [upd, nnx, ih]
      have fr' : ∀ j, j < nx → h' j = h j := fun j hj => by
        rw [q4 j (by omega)]
        have : ¬ j = t.nx := by omega
        simp [upd, this, fr j hj]
      cases hfx : f x with
      | false =>
        have hsame : mvTo f by' l (k + 1) = M := by rw [hsu, show mvE f by' x = x by unfold mvE; rw [hfx]; rfl]; exact set_same hgm
        simp -dsimp [hi, hn]
        exact ⟨by simp -dsimp [i13], by simp -dsimp [i8], by simp -dsimp [i1], by simp -dsimp [i2], by simp -dsimp [hsame, ih'], by simp -dsimp; omega, by simp -dsimp; exact fr', iu.succ hg (by unfold mvB; rw [hfx]; rfl)⟩
      | true =>
        have hset : mvTo f by' l (k + 1) = M.set k (x.1, x.2.1 + by', x.2.2) := by rw [hsu]; unfold mvE; rw [if_pos hfx]
        have hw : IntKind.i64.wrap (x.2.1 + by') = x.2.1 + by' := IntWalk.i64_in _ (by omega)
        have hgs : (M.set k (x.1, x.2.1 + by', x.2.2))[k]? = some (x.1, x.2.1 + by', x.2.2) := by rw [List.getElem?_set_self]; exact (List.getElem?_eq_some_iff.1 hgm).1
        have hmB : mvB f by' x = inB (x.2.1 + by') 0 1000000000000 := by unfold mvB; rw [hfx]; rfl
        have hml2 : (M.set k (x.1, x.2.1 + by', x.2.2)).length = l.length := by rw [List.length_set, hml]
        have hi0 := inM_ok (x.2.1 + by')
        rw [mom_eq] at hi0
        simp -dsimp [i13, i8, i1, hi, e_ia ih' hml hgm, e_l1 ih' hgm, hw, e_st1 ih' hgm]
        generalize M.set k (x.1, x.2.1 + by', x.2.2) = M' at *
        have ihs : (upd h' nx (rowE 0 M')) nx = rowE 0 M' := upd_self _ _ _
        simp -dsimp [e_ia ihs hml2 hgs, e_l1 ihs hgs]
        refine call_bool hi0 ?_
        cases c : inB (x.2.1 + by') 0 1000000000000 with
        | true =>
          simp -dsimp [hi, hn]
          exact ⟨by simp -dsimp [i13], by simp -dsimp [i8], by simp -dsimp [i1], by simp -dsimp [i2], by simp -dsimp [hset], by simp -dsimp; omega, fun j hj => by
            have : ¬ j = nx := by omega
            simp -dsimp [this]
            exact fr' j hj, iu.succ hg (by rw [hmB, c])⟩
        | false =>
          simp -dsimp
          refine ⟨.inr ⟨?_, rfl⟩, by omega, fun j hj => ?_, fun u n q j hj => by injection q with q; injection q with q; subst q; cases hj⟩
          · rw [List.all_eq_false]
            exact ⟨x, List.mem_of_getElem? hg, by rw [hmB, c]; simp⟩
          · have : ¬ j = nx := by omega
            simp only [upd]
            rw [if_neg this]
            exact fr' j hj
    · obtain ⟨i13, i8, i1, i2, ih, inx, fr, iu⟩ := hI
      have hall : l.all (mvB f by') = true := iu.all
      have hfull : mvTo f by' l l.length = l.map (mvE f by') := by unfold mvTo; rw [List.take_length, List.drop_length, List.append_nil]
      rw [hfull] at ih
      have hml : (l.map (mvE f by')).length = l.length := List.length_map ..
      simp -dsimp [i8]
      have hs := sort_ok hB (l.map (mvE f by')) (by rw [hml]; exact List.length_pos_iff.2 hne) (by omega) (h := t.h) (nx := t.nx) (id := nx) (ver := 0) ih inx
      rw [hml] at hs
      refine shr_ex (Q := fun v h2 nx2 => v = _ ∧ h2 = _ ∧ nx2 = _) ⟨_, _, _, ⟨rfl, rfl, rfl⟩, hs⟩ ?_
      rintro v h2 nx2 ⟨rfl, rfl, rfl⟩
      simp -dsimp [i8]
      refine ⟨.inl ⟨hall, _, rfl, .inr ⟨hne, ?_⟩⟩, by omega, fun j hj => ?_, fun u n q j hj => by injection q with q; injection q with q; subst q; simp [ownOf] at hj; omega⟩
      rotate_left
      · have : ¬ j = nx := by omega
        simp only [upd]
        rw [if_neg this]
        exact fr j hj
      have hsl : (srtE (l.map (mvE f by'))).length = l.length := by rw [(srtE_ok _).1.length_eq, hml]
      rw [← hsl]
      exact Acc.mk inx (by simp [upd]; rfl)
theorem shift_ex (hB : ByTimeRuns) {f : Entry → Bool} {by' : Int} {l : List Entry} {F b nx : Nat} {h : Hp} {B : LB} {lv : V} (hlv : toRO h 8 lv = some (rE l)) (hF : hasBody Try.prog F = true) (hl : l.length ≤ 1000) (hat : ∀ x ∈ l, 0 ≤ x.2.1 ∧ x.2.1 ≤ 1000000000000) (hby : -1000000000 ≤ by' ∧ by' ≤ 1000000000)
    (hb : b < nx) (hh : h b = some B) (hcl : ∀ (x : Entry) (h' : Hp) (nx' : Nat), b < nx' → h' b = some B → SEx Try.prog F ([.agg (entCd.cells x)] ++ [.pt b 0 0]) h' nx' (Quiet (.bool (f x)) h' nx')) :
    SEx Try.prog 92 [lv, .int .i64 by', .fn F [.pt b 0 0]] h nx (ShQ f by' l) := by
  obtain ⟨v, h', nx', hq, hs⟩ := shift_fr hB hlv hF hl hat hby hb hh hcl
  exact ⟨v, h', nx', hq.1, hs⟩
end Go.Proofs.P6
end
section
set_option linter.unusedVariables false
set_option linter.unusedSimpArgs false
set_option maxRecDepth 10000
set_option maxHeartbeats 8000000
namespace Go.Proofs.P6
open Go.Ex
theorem entE_at {x : Entry} (h : entE x = 0) : 0 ≤ x.2.1 ∧ x.2.1 ≤ 1000000000000 := by
  unfold entE at h
  split at h
  · cases h
  rename_i h1
  simp [inB] at h1
  omega
theorem em_ro {f : Nat} {args : List V} {n : Int} (h : OkF Try.prog f args (.tup [.em, .int .i64 n], [])) : OkF Try.prog f args (.tup [.ro 0 [], .int .i64 n], []) := by
  refine ⟨h.1, fun w S φ0 vs hG hS hv => (h.2 w S φ0 vs hG hS hv).mono fun e w' he => ?_⟩
  obtain ⟨x, φ', S', he, hR, h1, h2, hr⟩ := he
  refine ⟨x, φ', S', he, hR, h1, h2, ?_⟩
  simp only at hr ⊢
  cases hr
  rename_i us hs hc
  refine .tup _ _ (by simpa using hs) fun i c v hc' hv' => ?_
  match i with
  | 0 =>
    have := hc 0 .em v rfl hv'
    simp at hc'
    subst hc'
    cases this with
    | em0 => exact .roN
    | em a => exact .ro 0 [] a 0 #[] (Nat.le_refl _) rfl (fun q => absurd rfl q) (fun i x v hx => by simp at hx)
  | 1 => exact hc 1 c v hc' hv'
  | i + 2 => simp at hc'
theorem Shift_walk (hB : ByTimeRuns) (l : List Entry) (g : List UInt8) (by' : Int) (hok : ∀ x ∈ l, entOk x) (R : V) (F : Int) (e1 : entsE l ≠ 0 → R = .ro 0 [] ∧ F = entsE l) (e2 : entsE l = 0 → (g ≠ [] ∧ nm g = false) → R = .ro 0 [] ∧ F = 5)
    (e3 : entsE l = 0 → ¬ (g ≠ [] ∧ nm g = false) → inB by' (-1000000000) 1000000000 = false → R = .ro 0 [] ∧ F = 1)
    (e4 : entsE l = 0 → ¬ (g ≠ [] ∧ nm g = false) → inB by' (-1000000000) 1000000000 = true → ∀ v h' nx', ShQ (fG g) by' l v h' nx' → ∃ u f, v = .tup [u, .int .i64 f] ∧ exp1 h' [] u = some R ∧ f = F) : OkF Try.prog 39 [rE l, .str g, .int .i64 by'] (.tup [R, .int .i64 F], []) := by
  have e62 := Go.Ex.e62
  refine OkF.W0 hm h39 (of_decide_eq_true rfl) ?_
  unfold c39
  simp -dsimp
  refine call_int (CheckEntries_ok l hok) ?_
  simp -dsimp
  by_cases q1 : entsE l = 0
  rotate_left
  · obtain ⟨rfl, rfl⟩ := e1 q1
    simp -dsimp [q1]
  have gd := ents_ok q1
  have run : ∀ (q3 : inB by' (-1000000000) 1000000000 = true), ∀ h0 nx0, SEx Try.prog 92 [rE l, .int .i64 by', .fn 139 [.pt nx0 0 0]] (upd h0 nx0 (some ⟨0, 0, [.str g], none⟩)) (nx0 + 1) (ShQ (fG g) by' l) := fun q3 h0 nx0 =>
    shift_ex hB (B := ⟨0, 0, [.str g], none⟩) (lv := rE l) rfl (by kernel_rfl) gd.most (fun x hx => entE_at (gd.each x hx)) (by simp [inB] at q3; omega) (by omega) (by simp [upd]) (fun x h' nx' hb hh => inG_ok g x hb hh)
  simp -dsimp [q1]
  by_cases qg : g = []
  · have q2 : ¬ (g ≠ [] ∧ nm g = false) := fun q => q.1 qg
    cases q3 : inB by' (-1000000000) 1000000000 with
    | false =>
      obtain ⟨rfl, rfl⟩ := e3 q1 q2 q3
      simp -dsimp [qg]
      refine call_bool (inB_ok _ _ _) ?_
      simp -dsimp [q3]
    | true =>
      have hr := e4 q1 q2 q3
      have hrun := run q3
      subst qg
      simp -dsimp
      refine call_bool (inB_ok _ _ _) ?_
      simp -dsimp [q3]
      refine shr_ex (in_ok []) ?_
      rintro v h' nx' ⟨rfl, rfl, rfl⟩
      simp -dsimp
      refine shr_ex (hrun _ _) ?_
      intro v h' nx' hQ
      obtain ⟨u, f, rfl, e5, rfl⟩ := hr v h' nx' hQ
      simp -dsimp
      rw [e5]
      rfl
  · simp -dsimp [qg]
    refine call_bool (name_ok g) ?_
    cases qn : nm g with
    | false =>
      obtain ⟨rfl, rfl⟩ := e2 q1 ⟨qg, qn⟩
      simp -dsimp
    | true =>
      have q2 : ¬ (g ≠ [] ∧ nm g = false) := fun q => by rw [qn] at q; cases q.2
      simp -dsimp
      refine call_bool (inB_ok _ _ _) ?_
      cases q3 : inB by' (-1000000000) 1000000000 with
      | false =>
        obtain ⟨rfl, rfl⟩ := e3 q1 q2 q3
        simp -dsimp
      | true =>
        have hr := e4 q1 q2 q3
        have hrun := run q3
        simp -dsimp
        refine shr_ex (in_ok g) ?_
        rintro v h' nx' ⟨rfl, rfl, rfl⟩
        simp -dsimp
        refine shr_ex (hrun _ _) ?_
        intro v h' nx' hQ
        obtain ⟨u, f, rfl, e5, rfl⟩ := hr v h' nx' hQ
        simp -dsimp
        rw [e5]
        rfl
theorem Shift_ok (hB : ByTimeRuns) (l : List Entry) (g : List UInt8) (by' : Int) (hok : ∀ x ∈ l, entOk x) : OkF Try.prog 39 [rE l, .str g, .int .i64 by'] (.tup [rE (shE l g by').1, .int .i64 (shE l g by').2], []) := by
  have a1 : entsE l ≠ 0 → shE l g by' = ([], entsE l) := fun q => by unfold shE; rw [if_pos q]
  have a2 : entsE l = 0 → (g ≠ [] ∧ nm g = false) → shE l g by' = ([], 5) := fun q q2 => by unfold shE; rw [if_neg (by simp [q]), if_pos q2]
  have a3 : entsE l = 0 → ¬ (g ≠ [] ∧ nm g = false) → inB by' (-1000000000) 1000000000 = false → shE l g by' = ([], 1) := fun q q2 q3 => by unfold shE; rw [if_neg (by simp [q]), if_neg q2, if_pos q3]
  have a4 : entsE l = 0 → ¬ (g ≠ [] ∧ nm g = false) → inB by' (-1000000000) 1000000000 = true → shE l g by' = mvAll (fG g) by' l := fun q q2 q3 => by unfold shE; rw [if_neg (by simp [q]), if_neg q2, if_neg (by rw [q3]; simp)]
  by_cases hz : l = [] ∧ entsE l = 0 ∧ ¬ (g ≠ [] ∧ nm g = false) ∧ inB by' (-1000000000) 1000000000 = true
  · obtain ⟨rfl, z1, z2, z3⟩ := hz
    have hE : shE [] g by' = ([], 0) := a4 z1 z2 z3
    rw [hE]
    refine em_ro (Shift_walk hB [] g by' hok .em 0 (fun q => absurd z1 q) (fun _ q => absurd q z2) (fun _ _ q => by rw [z3] at q; cases q) fun _ _ _ v h' nx' hQ => ?_)
    rcases hQ with ⟨_, u, rfl, ⟨_, rfl⟩ | ⟨q, _⟩⟩ | ⟨hall, _⟩
    · exact ⟨_, _, rfl, rfl, rfl⟩
    · exact absurd rfl q
    · cases hall
  · refine Shift_walk hB l g by' hok _ _ (fun q => by rw [a1 q]; exact ⟨rfl, rfl⟩) (fun q q2 => by rw [a2 q q2]; exact ⟨rfl, rfl⟩) (fun q q2 q3 => by rw [a3 q q2 q3]; exact ⟨rfl, rfl⟩) fun q1 q2 q3 v h' nx' hQ => ?_
    have gd := ents_ok q1
    have h1 := a4 q1 q2 q3
    have hne : l ≠ [] := fun q => hz ⟨q, q1, q2, q3⟩
    rcases hQ with ⟨hall, u, rfl, hu⟩ | ⟨hall, rfl⟩
    · have hm1 : mvAll (fG g) by' l = (insAll [] (l.map (mvE (fG g) by')), 0) := by unfold mvAll; rw [if_pos hall]
      rw [hm1] at h1
      refine ⟨u, 0, rfl, ?_, by rw [h1]⟩
      rcases hu with ⟨q, rfl⟩ | ⟨_, ac⟩
      · exact absurd q hne
      · have hp := srtE_ok (l.map (mvE (fG g) by'))
        have hid : Ids (srtE (l.map (mvE (fG g) by'))) := ((hp.1.map (·.1)).nodup_iff).2 (mv_ids gd.ids)
        have := mv_sorted gd.ids (srt_of hp.2 hid) hp.1
        rw [this] at ac
        rw [h1]
        exact ac.ex1
    · have hm1 : mvAll (fG g) by' l = ([], 1) := by unfold mvAll; rw [if_neg (by rw [hall]; simp)]
      rw [hm1] at h1
      exact ⟨.ns, 1, rfl, by rw [h1]; rfl, by rw [h1]⟩
end Go.Proofs.P6
end
section
set_option linter.unusedVariables false
set_option linter.unusedSimpArgs false
set_option maxRecDepth 10000
set_option maxHeartbeats 8000000
namespace Go.Proofs.P6
open Go.Ex
theorem insAll_len : ∀ (l b : List Entry), (insAll b l).length = b.length + l.length
  | [], b => by simp [insAll]
  | x :: l, b => by
    show (insAll (ins b x) l).length = _
    rw [insAll_len l, ins_len, List.length_cons]
    omega
/-- What has been put of moved ones. -/
abbrev mvK (g : List UInt8) (by' : Int) (l : List Entry) (k : Nat) : List Entry := insAll [] ((l.take k).map (mvE (fG g) by'))
theorem moved_ok (l : List Entry) (g : List UInt8) (by' : Int) (hl : l.length ≤ 1000) (hat : ∀ x ∈ l, 0 ≤ x.2.1 ∧ x.2.1 ≤ 1000000000000) (hby : -1000000000 ≤ by' ∧ by' ≤ 1000000000) :
    OkF Try.prog 95 [rE l, .str g, .int .i64 0, .int .i64 by'] (.tup [rE (mvAll (fG g) by' l).1, .int .i64 (mvAll (fG g) by' l).2], []) := by
  have e62 := Go.Ex.e62
  refine OkF.W0 hm h95 (of_decide_eq_true rfl) ?_
  unfold c95
  simp -dsimp
  refine loop_to 11 l.length (fun k t => t.t 11 = .int .i64 k ∧ t.t 0 = rE l ∧ t.t 1 = .str g ∧ t.t 2 = .int .i64 0 ∧ t.t 3 = .int .i64 by' ∧ Acc entCd t.h t.nx (t.t 10) (mvK g by' l k) ∧ Upto (mvB (fG g) by') l k) (fun k t h => h.1) ⟨by simp -dsimp, by simp -dsimp, by simp -dsimp, by simp -dsimp, by simp -dsimp, by simp -dsimp; exact Acc.nil _ _, Upto.zero _ _⟩ (fun k t hk hI => ?_)
  obtain ⟨i11, i0, i1, i2, i3, ac, iu⟩ := hI
  by_cases hlt : k < l.length
  · have hlt' : (k : Int) < (l.length : Int) := by omega
    have hw : IntKind.i64.wrap ((k : Int) + 1) = (k : Int) + 1 := IntWalk.i64_in _ (by omega)
    have hg : l[k]? = some l[k] := List.getElem?_eq_getElem hlt
    have hax := hat l[k] (List.getElem_mem hlt)
    have hS : mvK g by' l (k + 1) = ins (mvK g by' l k) (mvE (fG g) by' l[k]) := by
      show insAll [] _ = ins (insAll [] _) _
      rw [List.take_succ_eq_append_getElem hlt, List.map_append, List.map_singleton, insAll_snoc]
    have hKl : (mvK g by' l k).length ≤ 1000 := by
      show (insAll [] _).length ≤ _
      rw [insAll_len]
      simp
      omega
    generalize l[k] = x at *
    generalize mvK g by' l k = M at *
    have hp1 := fun y => putRef_ok M y (by omega)
    have sl : ∀ y : Entry, (entV y).length = 6 := fun _ => rfl
    have tk6 : ∀ y : Entry, List.take 6 (entV y) = entV y := fun _ => rfl
    have hq1 : ∀ y : Entry, (entV y)[1]? = some (.int .i64 y.2.1) := fun _ => rfl
    have hput : putL [V.int IntKind.i64 0, V.int IntKind.i64 0, V.str [], V.str [], V.str [], V.bool false] 0 (entV x) = entV x := rfl
    have hg3 : ∀ hh, (entV x)[3]'hh = .str x.2.2.2.1 := fun _ => rfl
    have hg1 : ∀ hh, (entV x)[1]'hh = .int .i64 x.2.1 := fun _ => rfl
    have hw1 : IntKind.i64.wrap (x.2.1 + by') = x.2.1 + by' := IntWalk.i64_in _ (by omega)
    have hpx : ∀ y : Entry, V.pureL (entV y) = true := fun _ => rfl
    have hset : (entV x).set 1 (.int .i64 (x.2.1 + by')) = entV (x.1, x.2.1 + by', x.2.2) := rfl
    have mv1 : fG g x = true → mvE (fG g) by' x = (x.1, x.2.1 + by', x.2.2) := fun q => by unfold mvE; rw [if_pos q]
    have mv0 : fG g x = false → mvE (fG g) by' x = x := fun q => by unfold mvE; rw [q]; rfl
    have mB : fG g x = true → mvB (fG g) by' x = inB (x.2.1 + by') 0 1000000000000 := fun q => by unfold mvB; rw [q]; rfl
    have mB0 : fG g x = false → mvB (fG g) by' x = true := fun q => by unfold mvB; rw [q]; rfl
    have hm0 := moment_ok (x.2.1 + by')
    rw [mom_eq] at hm0
    have er : ∀ h' : Hp, (∀ j, j < t.nx → h' j = t.h j) → toRO h' 8 (t.t 10) = some (.ro M.length (fl entCd M)) := fun h' hh => (ac.mono (Nat.le_refl _) hh).ro
    have hor : ∀ y : Entry, okRes [t.t 10, .agg (entV y)] (.sl 0 0 0 (ins M y).length none, [⟨0, 6, fl entCd (ins M y), none⟩]) = true := fun y => by simp only [okRes, roFree, List.all_cons, List.all_nil, ent_roFree, Bool.and_self, Bool.or_true]
    have er3 : ∀ b1 b2 b3, toRO (upd (upd (upd t.h t.nx b1) t.nx b2) t.nx b3) 8 (t.t 10) = some (.ro M.length (fl entCd M)) := fun b1 b2 b3 => er _ fun j hj => by
      have : ¬ j = t.nx := by omega
      simp [upd, this]
    have er2 : ∀ b1 b2, toRO (upd (upd t.h t.nx b1) t.nx b2) 8 (t.t 10) = some (.ro M.length (fl entCd M)) := fun b1 b2 => er _ fun j hj => by
      have : ¬ j = t.nx := by omega
      simp [upd, this]
    have acn : ∀ (h' : Hp) (n : Nat) (y : Entry), Acc entCd (upd h' n (some ⟨0, 6, fl entCd (ins M y), none⟩)) (n + 1) (.sl n 0 0 (ins M y).length none) (ins M y) := fun h' n y => Acc.mk (by omega) (by simp [upd]; rfl)
    have hbad : mvB (fG g) by' x = false → mvAll (fG g) by' l = ([], 1) := fun q => by
      unfold mvAll
      rw [if_neg]
      rw [List.all_eq_true]
      intro h
      rw [h x (List.mem_of_getElem? hg)] at q
      cases q
    unfold l95_0
    by_cases qg : g = []
    · subst qg
      have hf : fG [] x = true := rfl
      simp -dsimp [i11, i0, i1, i2, i3, hlt', ent_ia hg, ent_ld hg, sl, tk6, hput, hg3, hg1, hw1, hset, hq1]
      refine call_bool hm0 ?_
      cases c : inB (x.2.1 + by') 0 1000000000000 with
      | true =>
        simp -dsimp [i11, i0, i1, i2, i3, sl, tk6, hset, er3]
        refine call_own (hp1 _) (hor _) ?_
        simp -dsimp [i11, hw]
        exact ⟨hlt, i0, i1, i2, i3, by rw [hS, mv1 hf]; exact acn _ _ _, iu.succ hg (by rw [mB hf, c])⟩
      | false =>
        simp -dsimp [hbad (by rw [mB hf, c])]
    · simp -dsimp [i11, i0, i1, i2, i3, hlt', ent_ia hg, ent_ld hg, sl, tk6, hput, hg3, hg1, hw1, qg]
      cases q : decide (x.2.2.2.1 = g) with
      | true =>
        have hf : fG g x = true := by unfold fG; rw [q, Bool.or_true]
        simp -dsimp [i3, hset, hg1, hw1, hq1, sl]
        refine call_bool hm0 ?_
        cases c : inB (x.2.1 + by') 0 1000000000000 with
        | true =>
          simp -dsimp [i11, i0, i1, i2, i3, sl, tk6, hset, er3]
          refine call_own (hp1 _) (hor _) ?_
          simp -dsimp [i11, hw]
          exact ⟨hlt, i0, i1, i2, i3, by rw [hS, mv1 hf]; exact acn _ _ _, iu.succ hg (by rw [mB hf, c])⟩
        | false =>
          simp -dsimp [hbad (by rw [mB hf, c])]
      | false =>
        have hf : fG g x = false := by unfold fG; rw [q, decide_eq_false qg]; rfl
        simp -dsimp [i11, i0, i1, i2, i3, sl, tk6, er2]
        refine call_own (hp1 _) (hor _) ?_
        simp -dsimp [i11, hw]
        exact ⟨hlt, i0, i1, i2, i3, by rw [hS, mv0 hf]; exact acn _ _ _, iu.succ hg (mB0 hf)⟩
  · have hkl : k = l.length := by omega
    subst hkl
    have hall : l.all (mvB (fG g) by') = true := iu.all
    have hE : mvAll (fG g) by' l = (mvK g by' l l.length, 0) := by unfold mvAll; rw [if_pos hall]; simp [mvK]
    have hx := ac.ex1
    unfold l95_0
    simp -dsimp [i11, i0, hE, hx]
theorem shiftIn_ok (n : Int) : OkF Try.prog 94 [.int .i64 n] (.bool (inB n (-1000000000) 1000000000), []) := by
  refine OkF.W0 hm h94 (of_decide_eq_true rfl) ?_
  unfold c94
  simp -dsimp
  refine call_bool (inBR_ok _ _ _) ?_
  simp -dsimp
theorem ShiftRef_ok (l : List Entry) (g : List UInt8) (by' : Int) (hok : ∀ x ∈ l, entOk x) (hgl : g.length < 2 ^ 62) : OkF Try.prog 40 [rE l, .str g, .int .i64 by'] (.tup [rE (shE l g by').1, .int .i64 (shE l g by').2], []) := by
  have e62 := Go.Ex.e62
  refine OkF.W0 hm h40 (of_decide_eq_true rfl) ?_
  unfold c40
  simp -dsimp
  refine call_int (CheckEntriesRef_ok l hok) ?_
  simp -dsimp
  have hE : ∀ r, shE l g by' = r → (if entsE l ≠ 0 then (([] : List Entry), entsE l) else if g ≠ [] ∧ nm g = false then ([], 5) else if inB by' (-1000000000) 1000000000 = false then ([], 1) else mvAll (fG g) by' l) = r := fun r q => q
  generalize shE l g by' = r at *
  have hE := hE r rfl
  by_cases q1 : entsE l = 0
  rotate_left
  · rw [if_pos q1] at hE
    subst hE
    simp -dsimp [q1]
  have gd := ents_ok q1
  rw [if_neg (by simp [q1])] at hE
  simp -dsimp [q1]
  by_cases qg : g = []
  · subst qg
    rw [if_neg (by simp)] at hE
    simp -dsimp
    refine call_bool (shiftIn_ok _) ?_
    cases q3 : inB by' (-1000000000) 1000000000 with
    | false =>
      rw [if_pos q3] at hE
      subst hE
      simp -dsimp
    | true =>
      rw [if_neg (by simp [q3])] at hE
      have hmv := moved_ok l [] by' gd.most (fun x hx => entE_at (gd.each x hx)) (by simp [inB] at q3; omega)
      rw [hE] at hmv
      simp -dsimp
      refine call_one hmv (okRes_of (by simp)) ?_
      simp -dsimp
  · simp -dsimp [qg]
    refine call_bool (isName_ok g hgl) ?_
    cases qn : nm g with
    | false =>
      rw [if_pos ⟨qg, qn⟩] at hE
      subst hE
      simp -dsimp
    | true =>
      rw [if_neg (by simp [qn])] at hE
      simp -dsimp
      refine call_bool (shiftIn_ok _) ?_
      cases q3 : inB by' (-1000000000) 1000000000 with
      | false =>
        rw [if_pos q3] at hE
        subst hE
        simp -dsimp
      | true =>
        rw [if_neg (by simp [q3])] at hE
        have hmv := moved_ok l g by' gd.most (fun x hx => entE_at (gd.each x hx)) (by simp [inB] at q3; omega)
        rw [hE] at hmv
        simp -dsimp
        refine call_one hmv (okRes_of (by simp)) ?_
        simp -dsimp
end Go.Proofs.P6
end
section
set_option linter.unusedVariables false
set_option linter.unusedSimpArgs false
set_option maxRecDepth 10000
set_option maxHeartbeats 8000000
namespace Go.Proofs.P6
open Go.Ex
theorem EntriesShiftMatchSpec (l : List Entry) (g : List UInt8) (by' : Int) (hok : ∀ x ∈ l, entOk x) (hgl : g.length < 2 ^ 62) : OkF Try.prog 9 [rE l, .str g, .int .i64 by'] (.bool true, []) := by
  have e62 := Go.Ex.e62
  have p1 := Shift_ok byTime_runs l g by' hok
  have p2 := ShiftRef_ok l g by' hok hgl
  have l1 := sh_len l g by'
  generalize shE l g by' = r1 at *
  obtain ⟨a1, f1⟩ := r1
  simp only at p1 p2 l1
  refine OkF.W0 hm h9 (of_decide_eq_true rfl) ?_
  unfold c9
  simp -dsimp
  refine call_one p1 (okRes_of (by simp)) ?_
  simp -dsimp
  refine call_one p2 (okRes_of (by simp)) ?_
  simp -dsimp
  refine call_bool (equalEnt_ok a1 a1 (by omega)) ?_
  simp -dsimp
  refine call_bool awake_ok ?_
  simp -dsimp
theorem EntriesShiftBack (l : List Entry) (g : List UInt8) (by' : Int) (hok : ∀ x ∈ l, entOk x) (hgl : g.length < 2 ^ 62) : OkF Try.prog 10 [rE l, .str g, .int .i64 by'] (.bool true, []) := by
  have e62 := Go.Ex.e62
  have p1 := Shift_ok byTime_runs l g by' hok
  have l1 := sh_len l g by'
  have hgood := fun a => sh_right (l := l) (a := a) (g := g) (by' := by')
  have hbad := fun a f => sh_bad (l := l) (a := a) (g := g) (by' := by') (f := f)
  have hin : shE l g by' = ((shE l g by').1, 0) → entsE l = 0 ∧ inB by' (-1000000000) 1000000000 = true := fun q => by
    unfold shE at q
    split at q
    · rename_i h1; simp only [Prod.mk.injEq] at q; exact absurd q.2 h1
    rename_i h1
    split at q
    · simp at q
    split at q
    · simp at q
    rename_i h3
    exact ⟨by simpa using h1, by simpa using h3⟩
  generalize shE l g by' = r1 at *
  obtain ⟨a, f⟩ := r1
  simp only at p1 l1 hin
  refine OkF.W0 hm h10 (of_decide_eq_true rfl) ?_
  unfold c10
  simp -dsimp
  refine call_one p1 (okRes_of (by simp)) ?_
  by_cases hf : f = 0
  rotate_left
  · have := hbad a f rfl hf
    subst this
    simp -dsimp [hf]
    refine call_bool awake_ok ?_
    simp -dsimp
  subst hf
  obtain ⟨hz, hr⟩ := hin rfl
  obtain ⟨g1, g2, g3⟩ := hgood a rfl
  have gl := ents_ok hz
  have hlm := gl.most
  have hak : ∀ y ∈ a, entOk y := fun y hy => entE_ok ((ents_ok g1).each y hy)
  have p3 := Shift_ok byTime_runs a g (-by') hak
  rw [g2] at p3
  have p4 := CheckEntries_ok a hak
  rw [g1] at p4
  have hneg : IntKind.i64.wrap (-by') = -by' := IntWalk.i64_in _ (by simp [inB] at hr; omega)
  simp -dsimp [hneg]
  refine call_one p3 (okRes_of (by simp)) ?_
  simp -dsimp
  refine call_bool (equalEnt_ok l l (by omega)) ?_
  simp -dsimp
  refine call_int p4 ?_
  simp -dsimp
  refine loop_to 10 l.length (fun k t => t.t 10 = .int .i64 k ∧ t.t 0 = rE l ∧ t.t 1 = .str g ∧ t.t 2 = .int .i64 by' ∧ t.t 7 = rE a) (fun k t h => h.1) (by simp -dsimp) (fun k t hk hI => ?_)
  obtain ⟨i10, i0, i1, i2, i7⟩ := hI
  have endk : ∀ (t : St), True := fun _ => trivial
  by_cases hlt : k < l.length
  · have hlt' : (k : Int) < (l.length : Int) := by omega
    unfold l10_0
    by_cases qg : g = []
    · subst qg
      have hw : IntKind.i64.wrap ((k : Int) + 1) = (k : Int) + 1 := IntWalk.i64_in _ (by omega)
      have hg : l[k]? = some l[k] := List.getElem?_eq_getElem hlt
      have hax := entE_at (gl.each l[k] (List.getElem_mem hlt))
      have ha : a[k]? = some (mvE (fG []) by' l[k]) := by rw [g3 rfl, List.getElem?_map, hg]; rfl
      generalize l[k] = x at *
      have hmv : mvE (fG []) by' x = (x.1, x.2.1 + by', x.2.2) := rfl
      rw [hmv] at ha
      have hw1 : IntKind.i64.wrap (x.2.1 + by') = x.2.1 + by' := IntWalk.i64_in _ (by simp [inB] at hr; omega)
      simp -dsimp [i10, i0, i1, i2, i7, hlt', ent_ia hg, ent_l0 hg, ent_l1 hg, ent_ia ha, ent_l0 ha, ent_l1 ha, hw, hw1]
      omega
    · simp -dsimp [i10, i0, i1, i2, i7, hlt', qg]
      refine call_bool awake_ok ?_
      simp -dsimp
  · have hkl : k = l.length := by omega
    subst hkl
    unfold l10_0
    simp -dsimp [i10, i0, i1, i2, i7]
    refine call_bool awake_ok ?_
    simp -dsimp
end Go.Proofs.P6
end
